/- Lemmas and walks: Maps with int keys: their keys in order; an entry is taken away. Walks: what a buffer holds, as puts. Walks: a buffer's set; a transaction is checked against nothing. Walks: a transaction is checked against no versions and no queue. Walks: an open transaction of a store, whatever was committed before: reads and writes. Walks: may a transaction be committed? Where nothing was written and nothing waits: yes. Walks: Commit of a store; the transaction that waits. Walks: the next batch, of one transaction. Walks: a batch of one transaction may be. Walks: a batch of one transaction is checked. Walks: a batch of one transaction is turned into frames. -/
import Derived.WideShapes
import Derived.Laws.IdiomRangeMap
import Derived.StillTailTactics
import Derived.BigQuiet
import Derived.Test.YtgagcbgbjkjghaaGreatDoorXf
import Derived.Test.YtgagcbgbjkjghaaGreatDoorXg
import Derived.Test.YtgagcbgbjkjghaaGreatDoorXh
namespace Go.Proofs.YtgagcbgbjkjghaaGreatDoor
open Go.RowKit Go.Maps Go.Sort Go.Shelf

/-- a map without one key. -/
def delL : List (Int × Value) → Int → List (Int × Value)
  | [], _ => []
  | p :: l, k => if k = p.1 then l else p :: delL l k
theorem delL_none {L : List (Int × Value)} {k : Int} {i : Nat} (h : findL L k i = none) : delL L k = L := by
  induction L generalizing i with
  | nil => rfl
  | cons p l ih =>
    simp only [findL] at h
    split at h
    · cases h
    · rename_i hk
      simp only [delL, if_neg hk, ih h]
theorem delL_some {L : List (Int × Value)} {k : Int} {i : Nat} {x : Nat × Value} (h : findL L k i = some x) : delL L k = L.eraseIdx (x.1 - i) := by
  induction L generalizing i with
  | nil => cases h
  | cons p l ih =>
    simp only [findL] at h
    split at h
    · rename_i hk
      injection h with h
      subst h
      simp [delL, hk]
    · rename_i hk
      have h2 := findL_ge h
      have e : x.1 - i = (x.1 - (i + 1)) + 1 := by omega
      rw [e]
      simp only [delL, if_neg hk, ih h, List.eraseIdx_cons_succ]
theorem erase_map {α β : Type} (f : α → β) (l : List α) (i : Nat) : (l.eraseIdx i).map f = (l.map f).eraseIdx i := by
  induction l generalizing i with
  | nil => rfl
  | cons a l ih =>
    cases i with
    | zero => rfl
    | succ i => simp [ih]
theorem run_delete_im {P : Program} {w : World} {mty kt et : TypeId} (hm : P.underlying mty = some (.map kt et)) (hk : P.underlying kt = some (.int .i64)) {r : Nat} {L : List (Int × Value)} (hM : MapAt w r L) (k : Int) (ty : TypeId) :
    ∃ w', (Builtin.delete_ #[mty, kt] ty #[.map (some r), .int .i64 k]).run P w = .ok (.tuple #[]) w' ∧ MapAt w' r (delL L k) ∧ Chg [r] w w' ∧ w'.heap.size = w.heap.size := by
  obtain ⟨es, clock, hb, hI, hS⟩ := hM
  have hf := findNow_im .i64 k es.toList L hI 0
  have hc : ∀ e, (Instr.checkKey e 10000 kt (.int .i64 k)).run P w = .ok () w := fun e => MapKept.run_checkKey (k := .int .i64 k) hk (by simp [MapKept.IsKey]) e 9999
  cases hfl : findL L k 0 with
  | none =>
    rw [hfl] at hf
    refine ⟨mapSet w r (.map es clock), ?_, ⟨_, _, mapSet_heap hb, ?_, hS⟩, mapSet_chg _ _ _, by simp [mapSet]⟩
    · simp [Builtin.delete_, run_underlying hm, MapKept.run_getObj_map hb, hc, MapKept.run_findKey hk hf, MapKept.run_setObj_map _ hb, Result.andThen, mapSet]
    · rw [delL_none hfl]
      exact hI
  | some x =>
    rw [hfl] at hf
    obtain ⟨i, u⟩ := x
    refine ⟨mapSet w r (.map (es.eraseIdxIfInBounds i) clock), ?_, ⟨_, _, mapSet_heap hb, ?_, MapKept.stamped_erase hS i⟩, mapSet_chg _ _ _, by simp [mapSet]⟩
    · simp [Builtin.delete_, run_underlying hm, MapKept.run_getObj_map hb, hc, MapKept.run_findKey hk hf, MapKept.run_setObj_map _ hb, Result.andThen, mapSet]
    · rw [delL_some hfl]
      unfold IM at hI ⊢
      have e : (es.eraseIdxIfInBounds i).toList = es.toList.eraseIdx i := by
        unfold Array.eraseIdxIfInBounds
        split
        · simp
        · rename_i h
          rw [List.eraseIdx_of_length_le]
          simpa using h
      rw [e, Nat.sub_zero, erase_map, erase_map, hI]
/-- ints in order. -/
def sortI (l : List Int) : List Int := l.mergeSort (fun x y => decide (x ≤ y))
theorem sortI_perm (l : List Int) : (sortI l).Perm l := List.mergeSort_perm l _
theorem sortI_length (l : List Int) : (sortI l).length = l.length := (sortI_perm l).length_eq
theorem owns_any {w : World} {r : Nat} {L : List (Int × Value)} (h : MapAt w r L) (k : TypeId) (hk : Tryz.prog.underlying k = some (.int .i64)) (hw : ∀ p ∈ L, (Lit.int .i64 p.1).wf = true) (hl : L.length ≤ maxLen) :
    ∃ D : DataW Unit, w.ownsMap Tryz.prog k (fun _ => some (.nil, [])) r L.length D ∧ (intKeys D).Perm (L.map Prod.fst) ∧ Maps.size D = L.length := by
  obtain ⟨es, clock, hb, hI, hS⟩ := h
  have hrd : ∀ x ∈ es.toList, ∃ a : Int, Go.WideElems.rd Tryz.prog k (fun _ => some ((.nil : DataW Unit), [])) x = some (.int .i64 a, .nil) ∧ x.key = .int .i64 a := by
    intro x hx
    have h1 : (x.key, x.val) ∈ es.toList.map (fun e => (e.key, e.val)) := List.mem_map.2 ⟨x, hx, rfl⟩
    rw [hI] at h1
    obtain ⟨p, hp, e⟩ := List.mem_map.1 h1
    have e1 : x.key = .int .i64 p.1 := (congrArg Prod.fst e).symm
    refine ⟨p.1, ?_, e1⟩
    unfold Go.WideElems.rd
    rw [e1, Go.Maps.keyOf_int_mk hk (hw p hp)]
    rfl
  have hlen : es.size = L.length := by
    have := congrArg List.length hI
    simpa using this
  have hmap : (es.toList.map (Go.WideElems.rg Tryz.prog k (fun _ => some ((.nil : DataW Unit), [])))).map (fun p => Go.intOf p.1) = L.map Prod.fst := by
    have e1 : (es.toList.map (Go.WideElems.rg Tryz.prog k (fun _ => some ((.nil : DataW Unit), [])))).map (fun p => Go.intOf p.1) = es.toList.map (fun x => match x.key with | .int _ a => a | _ => 0) := by
      rw [List.map_map]
      refine List.map_congr_left (fun x hx => ?_)
      obtain ⟨a, h1, h2⟩ := hrd x hx
      simp only [Function.comp, Go.WideElems.rg, h1, Option.getD_some, h2]
      rfl
    have e2 : es.toList.map (fun x => match x.key with | .int _ a => a | _ => 0) = (es.toList.map (fun e => (e.key, e.val))).map (fun p => match p.1 with | .int _ a => a | _ => 0) := by
      rw [List.map_map]; rfl
    rw [e1, e2, hI, List.map_map]
    rfl
  refine ⟨.map ((es.toList.map (Go.WideElems.rg Tryz.prog k (fun _ => some (.nil, [])))).foldr DataW.insert []), ⟨es, clock, hb, ⟨by omega, hS, fun x hx => ?_⟩, by omega, rfl⟩, ?_, ?_⟩
  · obtain ⟨a, h1, _⟩ := hrd x hx
    exact ⟨_, h1⟩
  · rw [← hmap]
    exact (Go.WideShapes.sorted_perm _).map _
  · rw [Maps.size_eq, (Go.WideShapes.sorted_perm _).length_eq, List.length_map, Array.length_toList, hlen]
set_option maxRecDepth 100000 in
/-- slices.Sorted(maps.Keys(m)). -/
theorem sortedA_any (W : World) {r : Nat} {L : List (Int × Value)} (h : MapAt W r L) (hw : ∀ p ∈ L, (Lit.int .i64 p.1).wf = true) (hl : L.length ≤ 100000) :
    Calls Tryz.prog 99 #[.func (.func 165) #[] #[.pointer (some ⟨W.heap.size, 0, none⟩)]] (W.alloc (.cells #[.map (some r)] 107)) fun e w' => ∃ v, e = .returned v ∧ w'.ownsRow W.heap.size 3 1 v L.length ((sortI (L.map Prod.fst)).map encZ) ∧ Chg [] W w' := by
  obtain ⟨D, hown, hp, hsz⟩ := owns_any (h.keep (Chg.alloc (S := []) W (.cells #[.map (some r)] 107)) (by simp)) 3 (by kernel_rfl) hw (by unfold maxLen; omega)
  have hseq : SeqGives Fence.wide 2 Tryz.prog 165 #[.pointer (some ⟨W.heap.size, 0, none⟩)] encZ (fun ss => ss.Perm (intKeys D)) (Maps.size D) (W.alloc (.cells #[.map (some r)] 107)) :=
    AnyZI.keys_gives (ρ := Tryz.keysA_ren) { Tryz.keysA with } Fence.wide _ trivial rfl (by omega) W.heap.size r L.length D _ (by simp) (by simp) hown
  have cS := AnyZI.sorted_in Tryz.sortedA Fence.wide 5 trivial trivial trivial trivial rfl (by omega) (sorts_all _) (enters_of Tryz.func164 (by kernel_rfl) rfl) 165 #[.pointer (some ⟨W.heap.size, 0, none⟩)] trivial (enters_of Tryz.func165 (by kernel_rfl) rfl) _ (Maps.size D) (by rw [hsz]; unfold maxLen; omega) (by rw [hsz]; omega) _ hseq
  refine (callsIn_wide.1 cS).mono ?_
  rintro e w' ⟨v, ss, rfl, hS, hrow, hnil, hbl⟩
  have hs : ss.mergeSort (fun x y => decide (x ≤ y)) = sortI (L.map Prod.fst) := mergeSort_of_perm_i (hS.trans hp)
  have hsl : ss.length = L.length := by rw [(hS.trans hp).length_eq, List.length_map]
  rw [hs, hsl] at hrow
  exact ⟨v, rfl, own_base hrow (by simp), (Chg.alloc W _).then (Chg.of_below hbl)⟩
end Go.Proofs.YtgagcbgbjkjghaaGreatDoor
namespace Go.Proofs.YtgagcbgbjkjghaaGreatDoor
open Go.RowKit Go.Lib

theorem wf_i64 {x : Int} (h0 : -9223372036854775808 ≤ x) (h1 : x ≤ 9223372036854775807) : (Lit.int .i64 x).wf = true := by
  have e1 : IntKind.i64.min = -9223372036854775808 := by decide
  have e2 : IntKind.i64.max = 9223372036854775807 := by decide
  simp only [Lit.wf, e1, e2, Bool.and_eq_true, decide_eq_true_eq]
  omega
theorem ty69 : Tryz.prog.underlying 111 = some (.slice 138) := by kernel_rfl
theorem inf92 : (Tryz.prog.info? 138).map (fun i => (i.zero, i.size, i.bytes)) = some (some (.agg #[.int .i64 0, .slice none 0 0]), 2, 32) := by kernel_rfl
/-- puts (a block's number, its bytes) in an own row. -/
def PutsAt (w : World) (base : Nat) (v : Value) (l : List (Int × List UInt8)) : Prop :=
  ∃ xs, w.ownsRow base 138 2 v l.length xs ∧ ∀ i (h : i < l.length), xs[i * 2]? = some (.int .i64 l[i].1) ∧ ∃ g c, xs[i * 2 + 1]? = some (.slice (some ⟨g, 0, none⟩) 40 c) ∧ Bs w (some ⟨g, 0, none⟩) l[i].2 ∧ l[i].2.length = 40 ∧ Bt w g
theorem PutsAt.nil (w : World) (base : Nat) : PutsAt w base (.slice none 0 0) [] := ⟨[], World.ownsRow_nil _ _ _ _, fun i h => by simp at h⟩
theorem PutsAt.block {w : World} {lo : Nat} {v : Value} {l : List (Int × List UInt8)} (h : PutsAt w lo v l) : ∀ g, v.ownBlock = some g → lo ≤ g ∧ ∃ cs, w.heap[g]? = some (.cells cs 138 (0, 0)) := by
  intro g hg
  obtain ⟨xs, ho, -⟩ := h
  exact own_elem ho hg
theorem PutsAt.keep {w w' : World} {T : List Nat} {lo : Nat} {v : Value} {l : List (Int × List UInt8)} (h : PutsAt w lo v l) (hc : Chg T w w') (hT : Av w T [5]) (hv : ∀ g, v.ownBlock = some g → g ∉ T) : PutsAt w' lo v l := by
  obtain ⟨xs, ho, hx⟩ := h
  refine ⟨xs, ?_, fun i hi => ?_⟩
  · refine ⟨ho.1, ?_⟩
    rcases ho.2 with hn | ⟨g, cap, cur, rfl, hb, hg, rest⟩
    · exact Or.inl hn
    · exact Or.inr ⟨g, cap, cur, rfl, hb, hc.heap hg (hv g rfl), rest⟩
  · obtain ⟨h0, g, c, h1, h2, h3, cs, h4⟩ := hx i hi
    have hg : g ∉ T := hT.ne h4 (by simp)
    exact ⟨h0, g, c, h1, h2.chgT hc hg, h3, cs, hc.heap h4 hg⟩
theorem PutsAt.keep0 {w w' : World} {lo : Nat} {v : Value} {l : List (Int × List UInt8)} (h : PutsAt w lo v l) (hc : Chg [] w w') : PutsAt w' lo v l := h.keep hc (Av.nil _ _) (fun _ _ => by simp)
/-- .. when a put is put behind them. -/
theorem PutsAt.push {w w' : World} {base gb cb n : Nat} {v v' : Value} {l : List (Int × List UInt8)} {k : Int} {b : List UInt8} {xs : List Value} (hx : ∀ i (h : i < l.length), xs[i * 2]? = some (.int .i64 l[i].1) ∧ ∃ g c, xs[i * 2 + 1]? = some (.slice (some ⟨g, 0, none⟩) 40 c) ∧ Bs w (some ⟨g, 0, none⟩) l[i].2 ∧ l[i].2.length = 40 ∧ Bt w g)
    (hl : xs.length = l.length * 2) (hn : n = l.length) (hv : ∀ g, v.ownBlock = some g → ∃ cs, w.heap[g]? = some (.cells cs 138 (0, 0))) (ho : w'.ownsRow base 138 2 v' (n + 1) (xs ++ [.int .i64 k, .slice (some ⟨gb, 0, none⟩) 40 cb])) (hc : Chg v.ownBlock.toList w w')
    (hb : Bs w (some ⟨gb, 0, none⟩) b) (hb4 : b.length = 40) (hbt : Bt w gb) : PutsAt w' base v' (l ++ [(k, b)]) := by
  subst hn
  have hne : ∀ {g}, Bt w g → g ∉ v.ownBlock.toList := by
    rintro g ⟨cs2, h2⟩ hm
    obtain ⟨cs, h1⟩ := hv g (by simpa using hm)
    rw [h1] at h2
    cases h2
  have keepB : ∀ {g}, Bt w g → Bt w' g := fun {g} h => by
    obtain ⟨cs, h2⟩ := id h
    exact ⟨cs, hc.heap h2 (hne h)⟩
  refine ⟨_, by rw [List.length_append]; exact ho, fun i hi => ?_⟩
  by_cases h : i < l.length
  · obtain ⟨h0, g, c, h1, h2, h3, h4⟩ := hx i h
    rw [List.getElem_append_left h]
    exact ⟨by rw [List.getElem?_append_left (by omega)]; exact h0, g, c, by rw [List.getElem?_append_left (by omega)]; exact h1, h2.chgT hc (hne h4), h3, keepB h4⟩
  · have hi2 : i = l.length := by simp at hi; omega
    subst hi2
    have e : (l ++ [(k, b)])[l.length]'(by simp) = (k, b) := by simp
    rw [e]
    exact ⟨by rw [← hl]; simp, gb, cb, by rw [← hl, List.getElem?_append_right (by omega)]; simp, hb.chgT hc (hne hbt), hb4, keepB hbt⟩
/-- a buffer's entries are blocks' bytes. -/
def BufD (w : World) (L : List (Int × Value)) (D : Int → List UInt8) : Prop := ∀ k v, getL L k = some v → ∃ g c, v = .slice (some ⟨g, 0, none⟩) 40 c ∧ Bs w (some ⟨g, 0, none⟩) (D k) ∧ (D k).length = 40 ∧ Bt w g
theorem BufD.keep {w w' : World} {L : List (Int × Value)} {D : Int → List UInt8} (h : BufD w L D) (hc : Chg [] w w') : BufD w' L D := fun k v hv => by
  obtain ⟨g, c, h1, h2, h3, cs, h4⟩ := h k v hv
  exact ⟨g, c, h1, h2.chg hc, h3, cs, hc.heap h4 (by simp)⟩
/-- the puts of a buffer, by rising number. -/
def putsL (L : List (Int × Value)) (D : Int → List UInt8) : List (Int × List UInt8) := (sortI (L.map Prod.fst)).map fun k => (k, D k)
theorem putsL_length (L : List (Int × Value)) (D : Int → List UInt8) : (putsL L D).length = L.length := by simp [putsL, sortI_length]
theorem getL_key {L : List (Int × Value)} {k : Int} (h : k ∈ L.map Prod.fst) : ∃ v, getL L k = some v := by
  induction L with
  | nil => simp at h
  | cons p l ih =>
    simp only [getL]
    by_cases e : k = p.1
    · exact ⟨_, if_pos e⟩
    · rw [if_neg e]
      simp only [List.map_cons, List.mem_cons] at h
      exact ih (h.resolve_left e)
set_option maxRecDepth 100000 in
set_option maxHeartbeats 2000000 in
theorem bputs_any (w : World) {W rw : Nat} {L : List (Int × Value)} {D : Int → List UInt8} (h : BufAt w W rw L) (hD : BufD w L D) (hk : ∀ x ∈ L, 0 ≤ x.1 ∧ x.1 < 258) (hl : L.length ≤ 1000) : Calls Tryz.prog 234 #[.pointer (some ⟨W, 0, none⟩)] w fun e w' =>
    ∃ v, e = .returned v ∧ Chg [] w w' ∧ PutsAt w' w.heap.size v (putsL L D) := by
  have c2 : w.cell? ⟨W, 2, none⟩ = some (.map (some rw)) := cell_is h.1 2 rfl
  have HS := Lib.hid (sortedA_any w h.2 (fun p hp => wf_i64 (by have := hk p hp; omega) (by have := hk p hp; omega)) (by omega))
  have HB := Lib.hid h
  have HD := Lib.hid hD
  have HK := Lib.hid hk
  clear h hD hk
  go_enter Tryz.func234, Tryz.ntmps234
  go_wp2_with (first
    | (go_at_call 100; refine (keysA_any (some rw) _).mono ?_; rintro e w1 ⟨rfl, rfl⟩)
    | (go_at_call 99; refine HS.out.mono ?_; rintro e w2 ⟨v2, rfl, o2, k2⟩; obtain ⟨pk, ck, rfl, hck⟩ := own_form o2))
  have hsl : (sortI (L.map Prod.fst)).length = L.length := by rw [sortI_length, List.length_map]
  have hmem : ∀ k, k ∈ sortI (L.map Prod.fst) → ∃ v, getL L k = some v := fun k hk => getL_key ((sortI_perm _).mem_iff.1 hk)
  have hpl : putsL L D = (sortI (L.map Prod.fst)).map fun k => (k, D k) := rfl
  have HP := Lib.hid hpl
  have HM := Lib.hid hmem
  have O2 := Lib.hid o2
  clear hmem hpl o2
  generalize hks : sortI (L.map Prod.fst) = ks at *
  have c22 := k2.cell c2 (by simp)
  generalize hn : L.length = n at *
  have hcki : (n : Int) ≤ ck := by omega
  go_loopw [2, 4, 14] (fun v _ i wr => ∃ j : Nat, j ≤ n ∧ i = .int .i64 j ∧ Chg [] w2 wr ∧ PutsAt wr w2.heap.size v ((ks.take j).map fun k => (k, D k))) (fun _ _ i _ => n - (intOf i).toNat)
  case atStart => exact ⟨0, by omega, rfl, Chg.refl _ _, PutsAt.nil _ _⟩
  case round =>
    obtain ⟨j, hj, rfl, kr, hp⟩ := hrel
    by_cases hlt : j < n
    · have hjk : j < ks.length := by omega
      obtain ⟨v, hv⟩ := HM.out ks[j] (List.getElem_mem hjk)
      obtain ⟨g, cg, rfl, hb, hb4, hbt⟩ := HD.out _ _ hv
      have kwr : Chg [] w wr := k2.then kr
      have hlook : (Instr.lookup 107 (.map (some rw)) (.int .i64 ks[j]) false).run Tryz.prog wr = .ok (.slice (some ⟨g, 0, none⟩) 40 cg) wr := by
        have := lookup151 (HB.out.2.keep kwr (by simp)) ks[j] false
        rw [hv] at this
        exact this
      have ck0 : ∃ gk, pk = some ⟨gk, 0, none⟩ ∧ wr.cell? ⟨gk, j, none⟩ = some (.int .i64 ks[j]) := by
        rcases O2.out.2 with ⟨_, h0⟩ | ⟨gk, cap, cur, e, hA, hg, hc1, hc2, hc3, ht⟩
        · omega
        · injection e with e1
          refine ⟨gk, e1, kr.cell (cell_is hg j ?_) (by simp)⟩
          have h1 : (ks.map encZ)[j]? = some (.int .i64 ks[j]) := by simp [hjk]
          rw [← ht, List.getElem?_take_of_lt (by omega), Array.getElem?_toList] at h1
          exact h1
      obtain ⟨gk, rfl, ck1⟩ := ck0
      have cw2 := kr.cell c22 (by simp)
      have HBs := Lib.hid (hb.chg kwr)
      have HPt := Lib.hid hp
      have HTk := Lib.hid (show (ks.take (j + 1)).map (fun k => (k, D k)) = (ks.take j).map (fun k => (k, D k)) ++ [(ks[j], D ks[j])] by rw [List.take_succ_eq_append_getElem hjk, List.map_append]; rfl)
      have HL4 := Lib.hid hb4
      have HBt := Lib.hid hbt
      clear hb hp hb4 hbt hv
      generalize ks[j] = k at *
      go_wp2_with fail
      refine (clone_bt wr HL4.out (by decide) (by decide) HBs.out).mono ?_
      rintro e w3 ⟨g2, c2, rfl, k3, b3, l3, t3⟩
      obtain ⟨xs, ho3, hx3⟩ := HPt.out.keep0 k3
      have hpl3 : ((ks.take j).map fun k => (k, D k)).length = j := by simp; omega
      have hb23 := (HPt.out.keep0 k3).block
      have hs3 : w2.heap.size ≤ w3.heap.size := (kr.then k3).size
      have B3 := Lib.hid b3
      have T3 := Lib.hid t3
      have HX3 := Lib.hid hx3
      have HO3 := Lib.hid ho3
      have H23 := Lib.hid hb23
      clear b3 t3 hx3 hb23 ho3
      go_wp2_with (at_builtin; refine wpList_append_lit rfl (.tmp 18) (.tmp 28) 111 138 rfl ty69 inf92 rfl (by decide) w2.heap.size w3 [.int .i64 k, .slice (some ⟨g2, 0, none⟩) 40 c2] 1 rfl _ ((ks.take j).map fun k => (k, D k)).length xs rfl HO3.out (by omega) (by decide) hs3 (k := 0) rfl (by simp [Value.oneCell']) rfl 1 rfl ?_; intro v' w4 hap)
      have hxl : xs.length = ((ks.take j).map fun k => (k, D k)).length * 2 := HO3.out.1
      have hfin : PutsAt w4 w2.heap.size v' (((ks.take j).map fun k => (k, D k)) ++ [(k, D k)]) := PutsAt.push HX3.out hxl rfl (fun g hg => (H23.out g hg).2) hap.1 (Chg.own hap.2.2 (fun g hg _ => by have hg2 : u2.ownBlock = some g := hg; simp [hg2])) B3.out HL4.out T3.out
      rw [← HTk.out] at hfin
      go_roundw
      case rel => exact ⟨j + 1, by omega, by simp, Chg.of_below ((kr.then k3).below0.trans hap.2.1), hfin⟩
      case measure => simp [intOf]; omega
    · obtain rfl : j = n := by omega
      go_wp2_with fail
      go_ret
      refine ⟨_, rfl, k2.then kr, ?_⟩
      rw [HP.out]
      rw [List.take_of_length_le (by omega)] at hp
      obtain ⟨xs, ho, hx⟩ := hp
      exact ⟨xs, own_base ho k2.size, hx⟩
end Go.Proofs.YtgagcbgbjkjghaaGreatDoor
namespace Go.Proofs.YtgagcbgbjkjghaaGreatDoor
open Go.RowKit Go.Lib

set_option maxRecDepth 100000 in
theorem blen_any (w : World) {W rw : Nat} {L : List (Int × Value)} {D : Int → List UInt8} (h : BufAt w W rw L) (hD : BufD w L D) (hk : ∀ x ∈ L, 0 ≤ x.1 ∧ x.1 < 258) (hl : L.length ≤ 1000) : Calls Tryz.prog 365 #[.pointer (some ⟨W, 0, none⟩)] w fun e w' => e = .returned (.int .i64 L.length) ∧ Chg [] w w' := by
  have HP := Lib.hid (bputs_any w h hD hk hl)
  clear h hD hk
  go_enter Tryz.func365, Tryz.ntmps365
  go_wp2_with fail
  refine HP.out.mono ?_
  rintro e w1 ⟨v, rfl, k, xs, ho, -⟩
  obtain ⟨pa, c, rfl, -⟩ := own_form ho
  go_wp2_with fail
  go_ret
  exact ⟨by rw [← putsL_length L D]; rfl, k⟩
/-- one put, at its place. -/
theorem PutsAt.get {w : World} {lo : Nat} {v : Value} {l : List (Int × List UInt8)} (h : PutsAt w lo v l) (k : Nat) (hk : k < l.length) : ∃ g cap gd cd, v = .slice (some ⟨g, 0, none⟩) l.length cap ∧ l.length ≤ cap ∧
    w.cell? ⟨g, k * 2, none⟩ = some (.int .i64 l[k].1) ∧ w.cell? ⟨g, k * 2 + 1, none⟩ = some (.slice (some ⟨gd, 0, none⟩) 40 cd) ∧ Bs w (some ⟨gd, 0, none⟩) l[k].2 ∧ l[k].2.length = 40 ∧ Bt w gd := by
  obtain ⟨xs, ho, hx⟩ := h
  obtain ⟨h0, gd, cd, h1, h2, h3, h4⟩ := hx k hk
  rcases ho.2 with ⟨_, e⟩ | ⟨g, cap, cur, rfl, hA, hg, hc1, hc2, hc3, ht⟩
  · omega
  · refine ⟨g, cap, gd, cd, rfl, hc1, cell_is hg _ ?_, cell_is hg _ ?_, h2, h3, h4⟩
    · rw [← ht, List.getElem?_take_of_lt (by omega), Array.getElem?_toList] at h0
      exact h0
    · rw [← ht, List.getElem?_take_of_lt (by omega), Array.getElem?_toList] at h1
      exact h1
set_option maxRecDepth 100000 in
set_option maxHeartbeats 2000000 in
theorem bset_any (w : World) {W rw : Nat} {L : List (Int × Value)} {D : Int → List UInt8} (h : BufAt w W rw L) (hD : BufD w L D) (hk : ∀ x ∈ L, 0 ≤ x.1 ∧ x.1 < 258) (hl : L.length ≤ 12) : Calls Tryz.prog 376 #[.pointer (some ⟨W, 0, none⟩)] w fun e w' =>
    ∃ U lo most, e = .returned (.pointer (some ⟨U, 0, none⟩)) ∧ Chg [] w w' ∧ SpW w' lo U most 12 ∧ w.heap.size ≤ U := by
  have HP := Lib.hid (bputs_any w h hD hk (by omega))
  clear h hD hk
  go_enter Tryz.func376, Tryz.ntmps376
  go_wp2_with fail
  refine HP.out.mono ?_
  rintro e w1 ⟨v, rfl, k1, hp⟩
  obtain ⟨pa, c, rfl, hcap⟩ := own_form hp.choose_spec.1
  have hpl : (putsL L D).length ≤ 12 := by rw [putsL_length]; exact hl
  have HPt := Lib.hid hp
  clear hp
  generalize putsL L D = l at *
  go_wp2_with fail
  refine (inewm_any w1 l.length).mono ?_
  rintro e w2 ⟨U, rfl, k2, hU, lU⟩
  have HPt2 := Lib.hid (HPt.out.keep0 k2)
  go_wp2_with fail
  go_loopw [6, 14] (fun _ i wr => ∃ j : Nat, j ≤ l.length ∧ i = .int .i64 j ∧ Chg [U] w2 wr ∧ SpW wr w1.heap.size U l.length j) (fun _ i _ => l.length - (intOf i).toNat)
  case atStart => exact ⟨0, by omega, rfl, Chg.refl _ _, hU⟩
  case round =>
    obtain ⟨j, hj, rfl, kr, hs⟩ := hrel
    by_cases hlt : j < l.length
    · obtain ⟨g, cap, gd, cd, hv, -, d0, d1, -, -, -⟩ := HPt2.out.get j hlt
      cases hv
      have hU312 : ∃ v0, w2.heap[U]? = some (.cells #[.int .i64 l.length, v0] 395 (0, 0)) := ⟨_, hU.choose_spec.choose_spec.1⟩
      have hg92 : ∃ cs, w2.heap[g]? = some (.cells cs 138 (0, 0)) := (HPt2.out.block g rfl).2
      have hgU : g ∉ [U] := by
        obtain ⟨v0, h1⟩ := hU312
        obtain ⟨cs, h2⟩ := hg92
        intro hm
        rw [List.mem_singleton] at hm
        rw [hm, h1] at h2
        cases h2
      have e0 := kr.cell d0 hgU
      have e1 := kr.cell d1 hgU
      have hS := Lib.hid hs
      clear hs hU hU312 hg92 d0 d1
      generalize (l[j]).1 = b at *
      go_wp2_with fail
      have kA : Chg [] wr ((wr.alloc (.cells #[.int .i64 b, .slice (some ⟨gd, 0, none⟩) 40 cd] 138)).alloc (.cells #[.int .i64 b, .int .i64 1] 342)) := chg_two wr _ _
      have hE := (two_new wr (.cells #[.int .i64 b, .slice (some ⟨gd, 0, none⟩) 40 cd] 138) (.cells #[.int .i64 b, .int .i64 1] 342)).2
      have hSpQ : SpQ ((wr.alloc (.cells #[.int .i64 b, .slice (some ⟨gd, 0, none⟩) 40 cd] 138)).alloc (.cells #[.int .i64 b, .int .i64 1] 342)) (some ⟨wr.heap.size + 1, 0, none⟩) [(b, 1)] := Or.inr ⟨_, 0, rfl, fun i u hu => by
        rw [Nat.zero_add]
        match i with
        | 0 => cases hu; exact cell_is hE 0 rfl
        | 1 => cases hu; exact cell_is hE 1 rfl
        | i + 2 => simp [spCells] at hu⟩
      refine (iadd_any _ (n := j) (m := 1) (hS.out.keep0 kA) (by omega) (by have := kA.size; have := k2.size; have := kr.size; omega) rfl hSpQ).mono ?_
      rintro e w3 ⟨r, rfl, k3, hs3⟩
      have kk : Chg [U] w2 w3 := (kr.then (kA.mono (fun x hx _ => by cases hx))).then k3
      clear hSpQ hE kA e0 e1
      go_wp2_with fail
      go_roundw
      case rel => exact ⟨j + 1, by omega, by simp, kk, hs3⟩
      case measure => simp [intOf]; omega
    · obtain rfl : j = l.length := by omega
      go_wp2_with fail
      go_ret
      obtain ⟨v, l3, h1, h2, h3⟩ := hs
      exact ⟨U, _, _, rfl, (k1.then k2).trans kr (fun x hx hlt => by rw [List.mem_singleton] at hx; have := k1.size; omega), ⟨v, l3, h1, by omega, h3⟩, by have := k1.size; omega⟩
set_option maxRecDepth 100000 in
theorem xgone_any (w : World) {X : Nat} (h : w.cell? ⟨X, 0, none⟩ = some (.int .i64 258)) : Calls Tryz.prog 158 #[.pointer (some ⟨X, 0, none⟩)] w fun e w' => e = .returned (.bool false) ∧ w = w' := by
  go_enter Tryz.func158, Tryz.ntmps158
  go_wp2_with fail
  go_ret
  exact ⟨rfl, rfl⟩
set_option maxRecDepth 100000 in
set_option maxHeartbeats 1000000 in
theorem written_none (w : World) {lo X rx : Nat} {last : Int} {vs : Int → List (Int × List UInt8)} (h : VerG w lo X rx last [] vs) (b n t : Int) : Calls Tryz.prog 387 #[.pointer (some ⟨X, 0, none⟩), .agg #[.int .i64 b, .int .i64 n], .int .i64 t] w fun e w' => e = .returned (.bool false) ∧ Chg [] w w' := by
  have kA : Chg [] w (w.alloc (.cells #[.int .i64 b, .int .i64 n] 342)) := Chg.alloc w _
  have A0 := heap_new w (.cells #[.int .i64 b, .int .i64 n] 342)
  have h2 := h.keep kA
  have x0 : (w.alloc (.cells #[.int .i64 b, .int .i64 n] 342)).cell? ⟨X, 0, none⟩ = some (.int .i64 258) := cell_is h2.x 0 rfl
  have x1 : (w.alloc (.cells #[.int .i64 b, .int .i64 n] 342)).cell? ⟨X, 1, none⟩ = some (.map (some rx)) := cell_is h2.x 1 rfl
  obtain ⟨clock, hm⟩ := h2.m.none
  have a0 : (w.alloc (.cells #[.int .i64 b, .int .i64 n] 342)).cell? ⟨w.heap.size, 0, none⟩ = some (.int .i64 b) := cell_is A0 0 rfl
  have a1 : (w.alloc (.cells #[.int .i64 b, .int .i64 n] 342)).cell? ⟨w.heap.size, 1, none⟩ = some (.int .i64 n) := cell_is A0 1 rfl
  have HG := Lib.hid (xgone_any _ x0)
  clear h h2 A0
  go_enter Tryz.func387, Tryz.ntmps387
  go_upto_region 1 with fail
  generalize w.alloc (.cells #[.int .i64 b, .int .i64 n] 342) = w1 at *
  go_cut [38] from 7 (fun v wx => (∃ r : Bool, v = .bool r) ∧ wx = w1)
  case first =>
    go_wp2_with fail
    refine HG.out.mono ?_
    rintro e w2 ⟨rfl, rfl⟩
    go_wp2_with fail
    all_goals
      go_meet
      exact ⟨⟨_, rfl⟩, rfl⟩
  case rest =>
    obtain ⟨⟨r, rfl⟩, rfl⟩ := hcut
    rename World => wd
    cases r
    · have hr1 := run_range_map (P := Tryz.prog) wd 229 3 238 rx #[] clock (by kernel_rfl) hm
      have hn1 : ∀ ty, (Instr.next (.pointer (some ⟨wd.heap.size, 0, none⟩)) false ty).run Tryz.prog (wd.alloc (.mapIter (some rx) clock #[] clock)) = .ok (.tuple #[.bool false]) (wd.alloc (.mapIter (some rx) clock #[] clock)) := by
        intro ty
        rcases run_next_map (P := Tryz.prog) wd ty rx clock clock #[] #[] clock hm (by simp) (Nat.le_refl _) with ⟨_, h⟩ | ⟨e, he, _⟩
        · exact h
        · simp [leftOf] at he
      have kI : Chg [] w (wd.alloc (.mapIter (some rx) clock #[] clock)) := kA.then_alloc _
      go_wp2_with fail
      generalize wd.alloc (.mapIter (some rx) clock #[] clock) = w3 at *
      go_loopw [7, 8] (fun _ _ wr => wr = w3) (fun _ _ _ => 0)
      case atStart => rfl
      case round =>
        subst hrel
        go_wp2_with fail
        go_ret
        exact ⟨rfl, kI⟩
    · go_wp2_with fail
      go_ret
      exact ⟨rfl, kA⟩
end Go.Proofs.YtgagcbgbjkjghaaGreatDoor
namespace Go.Proofs.YtgagcbgbjkjghaaGreatDoor
open Go.RowKit Go.Lib

set_option maxRecDepth 100000 in
set_option maxHeartbeats 4000000 in
theorem check_none (w : World) {lo X rx lo1 U1 m1 n1 lo2 U2 m2 n2 cq : Nat} {pq : Option Addr} {last t : Int} {vs : Int → List (Int × List UInt8)} (h : VerG w lo X rx last [] vs) (hr : SpW w lo1 U1 m1 n1) (hw : SpW w lo2 U2 m2 n2) (hn1 : n1 ≤ 1000) (hn2 : n2 ≤ 1000) :
    Calls Tryz.prog 374 #[.pointer (some ⟨X, 0, none⟩), .slice pq 0 cq, .int .i64 t, .pointer (some ⟨U1, 0, none⟩), .pointer (some ⟨U2, 0, none⟩)] w fun e w' => e = .returned (.int .i64 0) ∧ Chg [] w w' := by
  have HC := Lib.hid (count_any w hw hn2)
  have HV := Lib.hid h
  have HR := Lib.hid hr
  have HW := Lib.hid hw
  clear h hr hw
  go_enter Tryz.func374, Tryz.ntmps374
  go_wp2_with fail
  go_step3
  go_wp2_with fail
  refine HC.out.mono ?_
  rintro e w1 ⟨⟨r, rfl⟩, k1⟩
  by_cases hr0 : r = 0
  · subst hr0
    go_wp2_with fail
    simp only [Exit.noGoto]
    go_ret
    exact ⟨rfl, k1⟩
  · go_wp2_with fail
    go_step3
    go_wp2_with fail
    have hrb : (r == 0) = false := by simpa using hr0
    rw [hrb]
    have hi0 : ∀ w, (Instr.index 450 (.agg #[.pointer (some ⟨U1, 0, none⟩), .pointer (some ⟨U2, 0, none⟩)]) (.int .i64 ((0 : Nat) : Int))).run Tryz.prog w = .ok (.pointer (some ⟨U1, 0, none⟩)) w := fun w => by kernel_rfl
    have hi1 : ∀ w, (Instr.index 450 (.agg #[.pointer (some ⟨U1, 0, none⟩), .pointer (some ⟨U2, 0, none⟩)]) (.int .i64 ((1 : Nat) : Int))).run Tryz.prog w = .ok (.pointer (some ⟨U2, 0, none⟩)) w := fun w => by kernel_rfl
    go_loopw [11, 13, 15, 17, 24] (fun e _ _ _ i wr => ∃ j : Nat, j ≤ 2 ∧ i = .int .i64 j ∧ e = .int .i64 0 ∧ Chg [] w1 wr) (fun _ _ _ _ i _ => 2 - (intOf i).toNat)
    case atStart => exact ⟨0, by omega, rfl, rfl, Chg.refl _ _⟩
    case round =>
      obtain ⟨j, hj, rfl, rfl, kr⟩ := hrel
      by_cases hj2 : j < 2
      · obtain ⟨U, lo3, m3, n3, hi, hS, hn3⟩ : ∃ U lo3 m3 n3, (∀ w, (Instr.index 450 (.agg #[.pointer (some ⟨U1, 0, none⟩), .pointer (some ⟨U2, 0, none⟩)]) (.int .i64 (j : Int))).run Tryz.prog w = .ok (.pointer (some ⟨U, 0, none⟩)) w) ∧ SpW wr lo3 U m3 n3 ∧ n3 ≤ 1000 := by
          have kk := k1.then kr
          rcases (show j = 0 ∨ j = 1 by omega) with rfl | rfl
          · exact ⟨U1, _, _, _, hi0, HR.out.keep0 kk, hn1⟩
          · exact ⟨U2, _, _, _, hi1, HW.out.keep0 kk, hn2⟩
        have HE := Lib.hid (extents_any wr hS hn3)
        clear hi0 hi1 hS
        go_wp2_with fail
        refine HE.out.mono ?_
        rintro e w2 ⟨pb, m, cb, l, rfl, k2, hq, hl, hm⟩
        have HQ := Lib.hid hq
        clear hq
        go_wp2_with fail
        go_loopw [11, 15, 30] (fun e _ i wz => ∃ q : Nat, q ≤ m ∧ i = .int .i64 q ∧ e = .int .i64 0 ∧ Chg [] w2 wz) (fun _ _ i _ => m - (intOf i).toNat)
        case atStart => exact ⟨0, by omega, rfl, rfl, Chg.refl _ _⟩
        case round =>
          obtain ⟨q, hq, rfl, rfl, kz⟩ := hrel
          rename World => wz
          have kk : Chg [] w1 wz := (kr.then k2).then kz
          by_cases hqm : q < m
          · obtain ⟨b, o, rfl, c0, c1⟩ := (HQ.out.keep kz).get q (by omega)
            generalize (l[q]'(by omega)).1 = x at *
            generalize (l[q]'(by omega)).2 = y at *
            have ka : Chg [] wz (wz.alloc (.cells #[.int .i64 x, .int .i64 y] 342)) := Chg.alloc wz _
            have HWr := Lib.hid (written_none (wz.alloc (.cells #[.int .i64 x, .int .i64 y] 342)) (HV.out.keep ((k1.then kk).then ka)) x y t)
            go_wp2_with fail
            refine HWr.out.mono ?_
            rintro e w5 ⟨rfl, k5⟩
            go_wp2_with fail
            go_roundw
            case rel => exact ⟨q + 1, by omega, by simp, rfl, (kz.then ka).then k5⟩
            case measure => simp [intOf]; omega
          · obtain rfl : q = m := by omega
            go_wp2_with fail
            go_loopw [11, 17, 41] (fun e _ i wy => i = .int .i64 0 ∧ e = .int .i64 0 ∧ wy = wz) (fun _ _ _ _ => 0)
            case atStart => exact ⟨rfl, rfl, rfl⟩
            case round =>
              obtain ⟨rfl, rfl, rfl⟩ := hrel
              go_wp2_with fail
              go_roundw
              case rel => exact ⟨j + 1, by omega, by simp, rfl, kk⟩
              case measure => simp [intOf]; omega
      · obtain rfl : j = 2 := by omega
        go_wp2_with fail
        simp only [Exit.noGoto]
        go_ret
        exact ⟨rfl, k1.then kr⟩
end Go.Proofs.YtgagcbgbjkjghaaGreatDoor
namespace Go.Proofs.YtgagcbgbjkjghaaGreatDoor
open Go.RowKit Go.Lib

/-- a transaction's handle and time; the versions: the last time, the map's entries, each block's versions. -/
structure Par where
  h : Int
  t : Int
  lo : Nat
  last : Int
  Lv : List (Int × Value)
  vs : Int → List (Int × List UInt8)
/-- what a transaction's calls ask of the store about it. -/
structure Need (w : World) (d : Ids) (p : Par) : Prop where
  p0 : w.cell? ⟨d.P, 0, none⟩ = some (.pointer (some ⟨d.N, 0, none⟩))
  p5 : w.cell? ⟨d.P, 5, none⟩ = some (.pointer (some ⟨d.M, 0, none⟩))
  p9 : w.cell? ⟨d.P, 9, none⟩ = some (.bool false)
  hdr : ∃ ops rds, w.heap[d.N]? = some (.cells #[.int .i64 8, .int .i64 96, .slice (some ⟨d.A, 0, none⟩) 8 d.c, .int .i64 ops, .int .i64 rds, .bool false, .int .i64 0, .bool false] 78 (0, 0))
  m0 : w.cell? ⟨d.M, 0, none⟩ = some (.pointer (some ⟨d.X, 0, none⟩))
  m2 : w.cell? ⟨d.M, 2, none⟩ = some (.map (some d.r))
  map : ∃ Lr, MapAt w d.r Lr ∧ getL Lr p.h = some (.pointer (some ⟨d.T, 0, none⟩))
  ver : VerG w p.lo d.X d.rx p.last p.Lv p.vs
/-- what holds of the store about a transaction while it reads and writes. -/
structure Fr (base : Nat) (d : Ids) (p : Par) (F : World → Prop) : Prop where
  need : ∀ w, F w → Need w d p
  keep : ∀ a b, Ow base a b → F a → F b
/-- block T is an open transaction: its buffer W, its view Q, its time t. -/
def TxT (w : World) (T W Q : Nat) (t : Int) : Prop := w.heap[T]? = some (.cells #[.int .i64 1, .int .i64 0, .int .i64 0, .int .i64 t, .pointer (some ⟨W, 0, none⟩), .pointer (some ⟨Q, 0, none⟩)] 279 (0, 0))
/-- a store with an open transaction, whose blocks are q, whose buffer is L, behind n reads. -/
structure Su (w : World) (base : Nat) (d : Ids) (p : Par) (F : World → Prop) (q : Int → List UInt8) (L : List (Int × Value)) (n : Nat) : Prop where
  env : F w
  tx : TxT w d.T d.W d.Q p.t
  buf : BufAt w d.W d.rw L
  keys : ∀ x ∈ L, 0 ≤ x.1 ∧ x.1 < 258
  blk : ∀ b, 0 ≤ b → b < 258 → BlkT w L (p.vs b) p.t b (q b)
  vw : VwT w base d.Q d.X d.W d.V p.t n
  sp : SpV w base d.V n
  high : base ≤ d.Q ∧ base ≤ d.V ∧ base ≤ d.rw
theorem ow_rt {base : Nat} {w w' : World} {T : List Nat} (h : Chg T w w') (hT : Rt w base T) : Ow base w w' := by
  refine ⟨T, h, fun x hx => ⟨(hT x hx).1, fun cs t fr hh => ?_⟩⟩
  obtain ⟨_, cs', t', fr', h1, h2⟩ := hT x hx
  rw [hh] at h1
  cases h1
  exact h2
section
variable {base : Nat} {d : Ids} {p : Par} {F : World → Prop}
theorem Su.keep {w w' : World} {q : Int → List UInt8} {L : List (Int × Value)} {n : Nat} (hf : Fr base d p F) (h : Su w base d p F q L n) (hc : Chg [] w w') : Su w' base d p F q L n :=
  ⟨hf.keep w w' (Ow.of_chg hc) h.env, hc.heap h.tx (by simp), h.buf.keep hc (by simp) (by simp), h.keys, fun b hb hb' => (h.blk b hb hb').keep hc, h.vw.keep hc (Av.nil _ _), h.sp.keep0 hc, h.high⟩
set_option maxRecDepth 100000 in
theorem dead_gen (w : World) (h : Need w d p) : Calls Tryz.prog 101 #[.pointer (some ⟨d.P, 0, none⟩)] w fun e w' => e = .returned (.bool false) ∧ w = w' := by
  have c0 := h.p0
  have c9 := h.p9
  clear h
  go_enter Tryz.func101, Tryz.ntmps101
  go_wp2_with fail
  go_ret
  exact ⟨rfl, rfl⟩
set_option maxRecDepth 100000 in
theorem tgone_gen (w : World) (h : Need w d p) : Calls Tryz.prog 97 #[.pointer (some ⟨d.M, 0, none⟩)] w fun e w' => e = .returned (.bool false) ∧ w = w' := by
  have c0 := h.m0
  clear h
  go_enter Tryz.func97, Tryz.ntmps97
  go_wp2_with fail
  go_ret
  exact ⟨rfl, rfl⟩
set_option maxRecDepth 100000 in
theorem topen_gen (w : World) (h : Need w d p) (hT : TxT w d.T d.W d.Q p.t) : Calls Tryz.prog 207 #[.pointer (some ⟨d.M, 0, none⟩), .int .i64 p.h] w fun e w' => e = .returned (.pointer (some ⟨d.T, 0, none⟩)) ∧ w = w' := by
  have HG := Lib.hid (tgone_gen w h)
  have c2 := h.m2
  obtain ⟨Lr, hm, hg⟩ := h.map
  have hl : (Instr.lookup 177 (.map (some d.r)) (.int .i64 p.h) true).run Tryz.prog w = .ok (.tuple #[.pointer (some ⟨d.T, 0, none⟩), .bool true]) w := by
    have := lookup178 hm p.h true
    rw [hg] at this
    exact this
  have t0 : w.cell? ⟨d.T, 0, none⟩ = some (.int .i64 1) := cell_is hT 0 rfl
  clear h hT hg hm
  go_enter Tryz.func207, Tryz.ntmps207
  go_wp2_with fail
  refine HG.out.mono ?_
  rintro e w1 ⟨rfl, rfl⟩
  go_wp2_with fail
  go_ret
  exact ⟨rfl, rfl⟩
set_option maxRecDepth 100000 in
set_option maxHeartbeats 2000000 in
theorem tread_gen (w : World) {q : Int → List UInt8} {L : List (Int × Value)} {n : Nat} {b : Int} (hf : Fr base d p F) (h : Su w base d p F q L n) (hn : n ≤ 11) (h0 : 0 ≤ b) (h1 : b < 258) :
    Calls Tryz.prog 314 #[.pointer (some ⟨d.M, 0, none⟩), .int .i64 p.h, .agg #[.int .i64 b, .int .i64 1]] w fun e w' =>
    ∃ g c', e = .returned (.tuple #[.slice (some ⟨g, 0, none⟩) 40 c', .int .i64 0]) ∧ 40 ≤ c' ∧ Ow base w w' ∧ Su w' base d p F q L (n + 1) ∧ w.heap.size ≤ g ∧ Bs w' (some ⟨g, 0, none⟩) (q b) := by
  have k0 : Chg [] w (w.alloc (.cells #[.int .i64 b, .int .i64 1] 342)) := Chg.alloc w _
  have K0 := heap_new w (.cells #[.int .i64 b, .int .i64 1] 342)
  have h2 := h.keep hf k0
  have HO := Lib.hid (topen_gen _ (hf.need _ h2.env) h2.tx)
  clear h
  go_enter Tryz.func314, Tryz.ntmps314
  go_wp2_with fail
  generalize w.alloc (.cells #[.int .i64 b, .int .i64 1] 342) = w1 at *
  generalize hK : w.heap.size = K at *
  refine HO.out.mono ?_
  rintro e w2 ⟨rfl, rfl⟩
  have t5 : w1.cell? ⟨d.T, 5, none⟩ = some (.pointer (some ⟨d.Q, 0, none⟩)) := cell_is h2.tx 5 rfl
  have a0 : w1.cell? ⟨K, 0, none⟩ = some (.int .i64 b) := cell_is K0 0 rfl
  have a1 : w1.cell? ⟨K, 1, none⟩ = some (.int .i64 1) := cell_is K0 1 rfl
  go_wp2_with fail
  have hbuf := h2.buf
  have hq := h2.blk
  have h3 := h2.keep hf (Chg.refl [] w1).drew
  go_region_held3 (fun wx => wx.cell? ⟨d.T, 5, none⟩ = some (.pointer (some ⟨d.Q, 0, none⟩)) ∧ wx.cell? ⟨K, 0, none⟩ = some (.int .i64 b) ∧ wx.cell? ⟨K, 1, none⟩ = some (.int .i64 1))
    (first | (exact ⟨t5, a0, a1⟩) | (exact ⟨cell_is t6 5 rfl, cell_is K6 0 rfl, cell_is K6 1 rfl⟩))
    (first | (go_at_call 342; refine (gread_one w1.drew (hf.need _ h3.env).ver (hbuf.keep (Chg.refl [] w1).drew (by simp) (by simp)) (hq b h0 h1) h3.vw h3.sp hn ⟨h3.high.1, h3.high.2.1⟩ h0 h1).mono ?_; rintro e w6 ⟨g, c', T, rfl, hc', k6, hT, hg, hB6, hV6, hS6⟩; have t6 := k6.heap h3.tx (hT.cells h3.tx (by simp)); have K6 := k6.heap K0 (hT.cells K0 (by simp))))
  have hlow : ∀ x ∈ T, base ≤ x := fun x hx => (hT x hx).1
  have how0 : Ow base w1.drew w6 := ow_rt k6 hT
  have hfin : Su w6 base d p F q L (n + 1) := ⟨hf.keep _ _ how0 h3.env, t6, (hbuf.keep (Chg.refl [] w1).drew (by simp) (by simp)).keep k6 (hT.cells hbuf.1 (by simp)) (hT.map hbuf.2), h2.keys, fun x hx hx' => ((hq x hx hx').keep (Chg.refl [] w1).drew).keepT k6 hT, hV6, hS6, h3.high⟩
  have how : Ow base w w6 := (Ow.of_chg (base := base) k0.drew).trans how0
  have hsz : w.heap.size ≤ g := by have := k0.size; have h9 : w1.drew.heap.size = w1.heap.size := rfl; omega
  clear hq hbuf h2 h3 hV6 hS6 k6 hT t6 K6 how0
  go_wp2_with fail
  go_ret2
  exact ⟨g, c', rfl, hc', how, hfin, hsz, hB6⟩
set_option maxRecDepth 100000 in
set_option maxHeartbeats 2000000 in
theorem sread_gen (w : World) {q : Int → List UInt8} {L : List (Int × Value)} {n : Nat} {b : Int} (hf : Fr base d p F) (h : Su w base d p F q L n) (hn : n ≤ 11) (h0 : 0 ≤ b) (h1 : b < 258) :
    Calls Tryz.prog 259 #[.pointer (some ⟨d.P, 0, none⟩), .int .i64 p.h, .agg #[.int .i64 b, .int .i64 1]] w fun e w' =>
    ∃ g c', e = .returned (.tuple #[.slice (some ⟨g, 0, none⟩) 40 c', .int .i64 0]) ∧ 40 ≤ c' ∧ Ow base w w' ∧ Su w' base d p F q L (n + 1) ∧ w.heap.size ≤ g ∧ Bs w' (some ⟨g, 0, none⟩) (q b) := by
  have k0 : Chg [] w (w.alloc (.cells #[.int .i64 b, .int .i64 1] 342)) := Chg.alloc w _
  have K0 := heap_new w (.cells #[.int .i64 b, .int .i64 1] 342)
  have h2 := h.keep hf k0
  have HO := Lib.hid (dead_gen _ (hf.need _ h2.env))
  clear h
  go_enter Tryz.func259, Tryz.ntmps259
  go_wp2_with fail
  generalize w.alloc (.cells #[.int .i64 b, .int .i64 1] 342) = w1 at *
  generalize hK : w.heap.size = K at *
  refine HO.out.mono ?_
  rintro e w2 ⟨rfl, rfl⟩
  have t5 : w1.cell? ⟨d.P, 5, none⟩ = some (.pointer (some ⟨d.M, 0, none⟩)) := (hf.need _ h2.env).p5
  have a0 : w1.cell? ⟨K, 0, none⟩ = some (.int .i64 b) := cell_is K0 0 rfl
  have a1 : w1.cell? ⟨K, 1, none⟩ = some (.int .i64 1) := cell_is K0 1 rfl
  go_wp2_with fail
  have h3 := h2.keep hf (Chg.refl [] w1).drew
  go_region_held3 (fun wx => wx.cell? ⟨d.P, 5, none⟩ = some (.pointer (some ⟨d.M, 0, none⟩)) ∧ wx.cell? ⟨K, 0, none⟩ = some (.int .i64 b) ∧ wx.cell? ⟨K, 1, none⟩ = some (.int .i64 1))
    (first | (exact ⟨t5, a0, a1⟩) | (exact ⟨t6, cell_is K6 0 rfl, cell_is K6 1 rfl⟩))
    (first | (go_at_call 314; refine (tread_gen w1.drew hf h3 hn h0 h1).mono ?_; rintro e w6 ⟨g, c', rfl, hc', k6, h6, hg, hB6⟩; have t6 := (hf.need _ h6.env).p5; have K6 := k6.heap K0 (by simp)))
  have hsz : w.heap.size ≤ g := by have := k0.size; have h9 : w1.drew.heap.size = w1.heap.size := rfl; omega
  have how := (Ow.of_chg (base := base) k0.drew).trans k6
  clear h2 h3 t6 K6 k6
  go_wp2_with fail
  go_ret2
  exact ⟨g, c', rfl, hc', how, h6, hsz, hB6⟩
set_option maxRecDepth 100000 in
theorem twrite_gen (w : World) {q : Int → List UInt8} {L : List (Int × Value)} {n E eo cp D o c : Nat} {b : Int} {l : List UInt8} (hf : Fr base d p F) (h : Su w base d p F q L n)
    (e0 : w.cell? ⟨E, eo, none⟩ = some (.int .i64 b)) (e1 : w.cell? ⟨E, eo + 1, none⟩ = some (.slice (some ⟨D, o, none⟩) 40 c)) (hb : Bs w (some ⟨D, o, none⟩) l) (hl : l.length = 40) (h0 : 0 ≤ b) (h1 : b < 258) (hroom : L.length ≤ 15) :
    Calls Tryz.prog 339 #[.pointer (some ⟨d.M, 0, none⟩), .int .i64 p.h, .slice (some ⟨E, eo, none⟩) 1 cp] w fun e w' =>
    ∃ g c', e = .returned (.int .i64 0) ∧ Chg [d.rw] w w' ∧ BufAt w' d.W d.rw (putL L b (.slice (some ⟨g, 0, none⟩) 40 c')) ∧ Bs w' (some ⟨g, 0, none⟩) l ∧ Bt w' g := by
  have t4 : w.cell? ⟨d.T, 4, none⟩ = some (.pointer (some ⟨d.W, 0, none⟩)) := cell_is h.tx 4 rfl
  have HO := Lib.hid (topen_gen w (hf.need _ h.env) h.tx)
  have HW := Lib.hid (wwrite_one w (cp := cp) h.buf e0 e1 hb hl h0 h1 hroom)
  clear h e0 e1 hb hl
  go_enter Tryz.func339, Tryz.ntmps339
  go_wp2_with fail
  refine HO.out.mono ?_
  rintro e w1 ⟨rfl, rfl⟩
  go_wp2_with fail
  refine HW.out.mono ?_
  rintro e w1 ⟨g, c', rfl, k, hbf, hbs, hbt⟩
  go_wp2_with fail
  go_ret
  exact ⟨g, c', rfl, k, hbf, hbs, hbt⟩
theorem putL_keys {L : List (Int × Value)} {b : Int} {v : Value} {P : Int → Prop} (h : ∀ x ∈ L, P x.1) (hb : P b) : ∀ x ∈ putL L b v, P x.1 := by
  induction L with
  | nil => intro x hx; simp [putL] at hx; subst hx; exact hb
  | cons a l ih =>
    intro x hx
    simp only [putL] at hx
    split at hx
    · rcases List.mem_cons.1 hx with rfl | hx
      · exact hb
      · exact h x (List.mem_cons_of_mem _ hx)
    · rcases List.mem_cons.1 hx with rfl | hx
      · exact h _ List.mem_cons_self
      · exact ih (fun y hy => h y (List.mem_cons_of_mem _ hy)) x hx
set_option maxRecDepth 100000 in
theorem swrite_gen (w : World) {q : Int → List UInt8} {L : List (Int × Value)} {n E eo cp D o c : Nat} {b : Int} {l : List UInt8} (hf : Fr base d p F) (h : Su w base d p F q L n)
    (e0 : w.cell? ⟨E, eo, none⟩ = some (.int .i64 b)) (e1 : w.cell? ⟨E, eo + 1, none⟩ = some (.slice (some ⟨D, o, none⟩) 40 c)) (hb : Bs w (some ⟨D, o, none⟩) l) (hl : l.length = 40) (h0 : 0 ≤ b) (h1 : b < 258) (hroom : L.length ≤ 15) :
    Calls Tryz.prog 312 #[.pointer (some ⟨d.P, 0, none⟩), .int .i64 p.h, .slice (some ⟨E, eo, none⟩) 1 cp] w fun e w' =>
    ∃ v, e = .returned (.int .i64 0) ∧ Ow base w w' ∧ Su w' base d p F (putQ q b l) (putL L b v) n := by
  have c5 := (hf.need _ h.env).p5
  have HO := Lib.hid (dead_gen w (hf.need _ h.env))
  have HW := Lib.hid (twrite_gen w (cp := cp) hf h e0 e1 hb hl h0 h1 hroom)
  have HS := Lib.hid h
  have HF := Lib.hid hf
  clear h e0 e1 hb hf
  go_enter Tryz.func312, Tryz.ntmps312
  go_wp2_with fail
  refine HO.out.mono ?_
  rintro e w1 ⟨rfl, rfl⟩
  go_wp2_with fail
  refine HW.out.mono ?_
  rintro e w1 ⟨g, c', rfl, kc, hbf, hbs, hbt⟩
  go_wp2_with fail
  go_ret
  have h := HS.out
  have hr : ∀ {x : Nat} {cs : Array Value} {t : TypeId}, w.heap[x]? = some (.cells cs t (0, 0)) → x ∉ [d.rw] := fun hx => by simpa using (map_cells h.buf.2 hx).symm
  have how : Ow base w w1 := by
    refine ⟨[d.rw], kc, fun x hx => ?_⟩
    rw [List.mem_singleton] at hx
    subst hx
    exact ⟨h.high.2.2, fun cs t fr hh => absurd rfl (map_cells h.buf.2 hh)⟩
  refine ⟨_, rfl, how, HF.out.keep _ _ how h.env, kc.heap h.tx (hr h.tx), hbf, putL_keys (P := fun x => 0 ≤ x ∧ x < 258) h.keys ⟨h0, h1⟩, fun x hx hx' => ?_, h.vw.keep kc (av_map h.buf.2 _), h.sp.keep kc (av_map h.buf.2 _), h.high⟩
  unfold putQ
  by_cases hxb : x = b
  · rw [if_pos hxb]
    exact Or.inr ⟨g, c', by rw [getL_put, if_pos hxb], hbs, hl, hbt⟩
  · rw [if_neg hxb]
    rcases h.blk x hx hx' with ⟨hg, hz⟩ | ⟨g2, c2, hg, hb2, hl2, cs, ht2⟩
    · exact Or.inl ⟨by rw [getL_put, if_neg hxb]; exact hg, hz⟩
    · exact Or.inr ⟨g2, c2, by rw [getL_put, if_neg hxb]; exact hg, hb2.chgT kc (hr ht2), hl2, cs, kc.heap ht2 (hr ht2)⟩
end
end Go.Proofs.YtgagcbgbjkjghaaGreatDoor
namespace Go.Proofs.YtgagcbgbjkjghaaGreatDoor
open Go.RowKit Go.Lib

/-- block M is a manager. -/
def MgrG (w : World) (M X B r : Nat) (qv : Value) (out num bas last given : Int) (rd : Bool) : Prop :=
  w.heap[M]? = some (.cells #[.pointer (some ⟨X, 0, none⟩), .pointer (some ⟨B, 0, none⟩), .map (some r), qv, .int .i64 out, .int .i64 num, .int .i64 bas, .int .i64 last, .int .i64 given, .bool rd] 179 (0, 0))
set_option maxRecDepth 100000 in
theorem waiting_none (w : World) {M X B r cq : Nat} {pq : Option Addr} {out num bas last given : Int} {rd : Bool} (h : MgrG w M X B r (.slice pq 0 cq) out num bas last given rd) : Calls Tryz.prog 235 #[.pointer (some ⟨M, 0, none⟩)] w fun e w' => e = .returned (.slice none 0 0) ∧ w = w' := by
  have m3 : w.cell? ⟨M, 3, none⟩ = some (.slice pq 0 cq) := cell_is h 3 rfl
  clear h
  go_enter Tryz.func235, Tryz.ntmps235
  go_wp2_with fail
  go_loopw [2, 4, 5, 11] (fun v _ _ i wr => i = .int .i64 0 ∧ w = wr ∧ v = .slice none 0 0) (fun _ _ _ _ _ => 0)
  case atStart => exact ⟨rfl, rfl, rfl⟩
  case round =>
    obtain ⟨rfl, rfl, rfl⟩ := hrel
    go_wp2_with fail
    go_ret
    exact ⟨rfl, rfl⟩
set_option maxRecDepth 100000 in
set_option maxHeartbeats 4000000 in
theorem may_none (w : World) {M X B r cq lo rx T W rw Q V n base : Nat} {pq : Option Addr} {out num bas last given lastv t : Int} {vs : Int → List (Int × List UInt8)} {L : List (Int × Value)} {D : Int → List UInt8}
    (h : MgrG w M X B r (.slice pq 0 cq) out num bas last given false) (hg : given < 1099511627776) (hv : VerG w lo X rx lastv [] vs) (hT : TxT w T W Q t) (hb : BufAt w W rw L) (hD : BufD w L D) (hk : ∀ x ∈ L, 0 ≤ x.1 ∧ x.1 < 258) (hl : L.length ≤ 12)
    (hV : VwT w base Q X W V t n) (hS : SpV w base V n) (hn : n ≤ 12) : Calls Tryz.prog 366 #[.pointer (some ⟨M, 0, none⟩), .pointer (some ⟨T, 0, none⟩)] w fun e w' => e = .returned (.int .i64 0) ∧ Chg [] w w' := by
  have m9 : w.cell? ⟨M, 9, none⟩ = some (.bool false) := cell_is h 9 rfl
  have m0 : w.cell? ⟨M, 0, none⟩ = some (.pointer (some ⟨X, 0, none⟩)) := cell_is h 0 rfl
  have m8 : w.cell? ⟨M, 8, none⟩ = some (.int .i64 given) := cell_is h 8 rfl
  have t3 : w.cell? ⟨T, 3, none⟩ = some (.int .i64 t) := cell_is hT 3 rfl
  have t4 : w.cell? ⟨T, 4, none⟩ = some (.pointer (some ⟨W, 0, none⟩)) := cell_is hT 4 rfl
  have t5 : w.cell? ⟨T, 5, none⟩ = some (.pointer (some ⟨Q, 0, none⟩)) := cell_is hT 5 rfl
  have kd : Chg [] w w.drew := (Chg.refl [] w).drew
  have HW := Lib.hid (waiting_none w.drew (kd.heap h (by simp)))
  have HV := Lib.hid (vset_any w.drew (hV.keep kd (Av.nil _ _)) (hS.keep0 kd) hn)
  have hS2 : ∀ wx, Chg [] w wx → wx.cell? ⟨M, 0, none⟩ = some (.pointer (some ⟨X, 0, none⟩)) ∧ wx.cell? ⟨T, 3, none⟩ = some (.int .i64 t) ∧ wx.cell? ⟨T, 4, none⟩ = some (.pointer (some ⟨W, 0, none⟩)) ∧ wx.cell? ⟨T, 5, none⟩ = some (.pointer (some ⟨Q, 0, none⟩)) :=
    fun wx k => ⟨k.cell m0 (by simp), k.cell t3 (by simp), k.cell t4 (by simp), k.cell t5 (by simp)⟩
  have HS2 := Lib.hid hS2
  have HBf := Lib.hid hb
  have HD := Lib.hid hD
  have HK := Lib.hid hk
  have HVr := Lib.hid hv
  clear h hT hb hD hk hV hS hv hS2
  go_enter Tryz.func366, Tryz.ntmps366
  go_upto_region 3 with fail
  go_region_held3 (fun wx => wx.cell? ⟨M, 0, none⟩ = some (.pointer (some ⟨X, 0, none⟩)) ∧ wx.cell? ⟨T, 3, none⟩ = some (.int .i64 t) ∧ wx.cell? ⟨T, 4, none⟩ = some (.pointer (some ⟨W, 0, none⟩)) ∧ wx.cell? ⟨T, 5, none⟩ = some (.pointer (some ⟨Q, 0, none⟩)))
    (first
      | (with_reducible exact HS2.out _ kF) | (with_reducible exact HS2.out _ k3) | (with_reducible exact HS2.out _ k2) | (exact HS2.out _ kd))
    (first
      | (go_at_call 235; refine HW.out.mono ?_; rintro e w1 ⟨rfl, rfl⟩)
      | (go_at_call 375; refine HV.out.mono ?_; rintro e w2 ⟨U, loU, rfl, k2', hU, lU⟩; have k2 := kd.then k2')
      | (go_at_call 376; refine (bset_any w2 (HBf.out.keep k2 (by simp) (by simp)) (HD.out.keep k2) HK.out hl).mono ?_; rintro e w3 ⟨U2, loU2, most, rfl, k3', hU2, lU2⟩; have k3 := k2.then k3'; have hU3 := hU.keep0 k3')
      | (go_at_call 374; refine (check_none w3 (HVr.out.keep k3) hU3 hU2 (by omega) (by omega)).mono ?_; rintro e w4 ⟨rfl, k4⟩; have kF := k3.then k4))
  all_goals
    have m84 := kF.cell m8 (by simp)
    have hng : ¬ (given ≥ 1099511627776) := by omega
    clear HW HV HS2 HBf HD HK HVr hU hU2 hU3
    go_wp2_with fail
    go_ret
    exact ⟨rfl, kF⟩
theorem own_some {w : World} {base e size n : Nat} {v : Value} {xs : List Value} (h : w.ownsRow base e size v n xs) (hn : 0 < n) : ∃ g c, v = .slice (some ⟨g, 0, none⟩) n c := by
  rcases h.2 with ⟨_, h0⟩ | ⟨g, cap, cur, rfl, _⟩
  · omega
  · exact ⟨g, cap, rfl⟩
/-- block T is a transaction that waits: its time k. -/
def TxW (w : World) (T W Q : Nat) (k t : Int) : Prop := w.heap[T]? = some (.cells #[.int .i64 2, .int .i64 k, .int .i64 0, .int .i64 t, .pointer (some ⟨W, 0, none⟩), .pointer (some ⟨Q, 0, none⟩)] 279 (0, 0))
set_option maxRecDepth 100000 in
set_option maxHeartbeats 4000000 in
theorem tcommit_one (w : World) {d : Ids} {p : Par} {cq n base loq : Nat} {pq : Option Addr} {out num bas last given : Int} {L : List (Int × Value)} {D : Int → List UInt8}
    (hN : Need w d p) (hv0 : p.Lv = []) (h : MgrG w d.M d.X d.B d.r (.slice pq 0 cq) out num bas last given false) (hg0 : 0 ≤ given) (hg : given < 1099511627776) (hq : w.ownsRow loq 3 1 (.slice pq 0 cq) 0 []) (hlq : loq ≤ w.heap.size) (hT : TxT w d.T d.W d.Q p.t) (hb : BufAt w d.W d.rw L) (hD : BufD w L D) (hk : ∀ x ∈ L, 0 ≤ x.1 ∧ x.1 < 258) (hl : L.length ≤ 12) (hl0 : 0 < L.length)
    (hV : VwT w base d.Q d.X d.W d.V p.t n) (hS : SpV w base d.V n) (hn : n ≤ 12) : Calls Tryz.prog 352 #[.pointer (some ⟨d.M, 0, none⟩), .int .i64 p.h] w fun e w' =>
    ∃ g c, e = .returned (.int .i64 0) ∧ Chg (d.M :: d.T :: (Value.slice pq 0 cq).ownBlock.toList) w w' ∧ MgrG w' d.M d.X d.B d.r (.slice (some ⟨g, 0, none⟩) 1 c) out num bas last (given + 1) false ∧ w'.ownsRow loq 3 1 (.slice (some ⟨g, 0, none⟩) 1 c) 1 [.int .i64 p.h] ∧ TxW w' d.T d.W d.Q (given + 1) p.t := by
  have HO := Lib.hid (topen_gen w hN hT)
  have t4 : w.cell? ⟨d.T, 4, none⟩ = some (.pointer (some ⟨d.W, 0, none⟩)) := cell_is hT 4 rfl
  have HLn := Lib.hid (blen_any w hb hD hk (by omega))
  have hver := hN.ver
  rw [hv0] at hver
  have HMy := Lib.hid (fun w1 (k : Chg [] w w1) => may_none w1 (k.heap h (by simp)) hg (hver.keep k) (k.heap hT (by simp)) (hb.keep k (by simp) (by simp)) (hD.keep k) hk hl (hV.keep k (Av.nil _ _)) (hS.keep0 k) hn)
  have hMT : d.M ≠ d.T := heap_ne h hT (by simp)
  have HM := Lib.hid h
  have HT := Lib.hid hT
  have HQ := Lib.hid hq
  have hl0i : ¬ (L.length : Int) = 0 := by omega
  have HL0 := Lib.hid hl0i
  clear hN hb hD hV hS hver h hT hq
  go_enter Tryz.func352, Tryz.ntmps352
  go_wp2_with fail
  refine HO.out.mono ?_
  rintro e w1 ⟨rfl, rfl⟩
  go_wp2_with fail
  refine HLn.out.mono ?_
  rintro e w1 ⟨rfl, k1⟩
  go_wp2_with fail
  refine (HMy.out w1 k1).mono ?_
  rintro e w2 ⟨rfl, k2'⟩
  have k2 := k1.then k2'
  have hM2 := k2.heap HM.out (by simp)
  have hT2 := k2.heap HT.out (by simp)
  have hq2 := ownsRow_av HQ.out k2 (Av.nil _ _)
  have hs2 := k2.size
  have m8 : w2.cell? ⟨d.M, 8, none⟩ = some (.int .i64 given) := cell_is hM2 8 rfl
  have f8 := unfrozen hM2 8
  have m3 : w2.cell? ⟨d.M, 3, none⟩ = some (.slice pq 0 cq) := cell_is hM2 3 rfl
  have f3 := unfrozen hM2 3
  have t0 : w2.cell? ⟨d.T, 0, none⟩ = some (.int .i64 1) := cell_is hT2 0 rfl
  have t1 : w2.cell? ⟨d.T, 1, none⟩ = some (.int .i64 0) := cell_is hT2 1 rfl
  have ft0 := unfrozen hT2 0
  have ft1 := unfrozen hT2 1
  have hgw : wrap64 (given + 1) = given + 1 := by unfold wrap64; omega
  have kS := ((((Chg.refl [] w2).mono (T := [d.M, d.T]) (fun x hx _ => by cases hx)).then_set (g := d.M) (fun _ => by simp) 8 (.int .i64 (given + 1))).then_set (g := d.T) (fun _ => by simp) 0 (.int .i64 2)).then_set (g := d.T) (fun _ => by simp) 1 (.int .i64 (given + 1))
  have hMS : MgrG (((w2.setCell ⟨d.M, 8, none⟩ (.int .i64 (given + 1))).setCell ⟨d.T, 0, none⟩ (.int .i64 2)).setCell ⟨d.T, 1, none⟩ (.int .i64 (given + 1))) d.M d.X d.B d.r (.slice pq 0 cq) out num bas last (given + 1) false :=
    heap_set_ne (heap_set_ne (heap_set hM2 8 _ rfl) hMT _ _) hMT _ _
  have hTS : TxW (((w2.setCell ⟨d.M, 8, none⟩ (.int .i64 (given + 1))).setCell ⟨d.T, 0, none⟩ (.int .i64 2)).setCell ⟨d.T, 1, none⟩ (.int .i64 (given + 1))) d.T d.W d.Q (given + 1) p.t :=
    heap_set (heap_set (heap_set_ne hT2 hMT.symm _ _) 0 _ rfl) 1 _ rfl
  have avS : Av w2 [d.M, d.T] [3] := fun x hx cs t fr hh => by
    simp at hx
    rcases hx with rfl | rfl
    · rw [show w2.heap[d.M]? = _ from hM2] at hh; cases hh; simp
    · rw [show w2.heap[d.T]? = _ from hT2] at hh; cases hh; simp
  have hqS := ownsRow_av hq2 kS avS
  clear HMy HLn HO k1 k2' t4
  go_upto_region 14 with fail
  have hsS : loq ≤ (((w2.setCell ⟨d.M, 8, none⟩ (.int .i64 (given + 1))).setCell ⟨d.T, 0, none⟩ (.int .i64 2)).setCell ⟨d.T, 1, none⟩ (.int .i64 (given + 1))).heap.size := by have := kS.size; omega
  clear m8 f8 m3 f3 t0 t1 ft0 ft1 avS hq2
  generalize ((w2.setCell ⟨d.M, 8, none⟩ (.int .i64 (given + 1))).setCell ⟨d.T, 0, none⟩ (.int .i64 2)).setCell ⟨d.T, 1, none⟩ (.int .i64 (given + 1)) = wS at *
  have m3 : wS.cell? ⟨d.M, 3, none⟩ = some (.slice pq 0 cq) := cell_is hMS 3 rfl
  go_wp2_with (at_builtin; refine wpList_append_lit rfl (.tmp 59) (.tmp 61) 29 3 rfl ty62 inf3 rfl (by decide) loq wS [.int .i64 p.h] 1 rfl (.slice pq 0 cq) 0 [] rfl hqS (by omega) (by decide) hsS (k := 0) rfl (by simp [Value.oneCell']) rfl 1 rfl ?_; intro v' w4 hap; obtain ⟨g4, c4, rfl⟩ := own_some hap.1 (by decide); have k4 : Chg (Value.slice pq 0 cq).ownBlock.toList wS w4 := Chg.own hap.2.2 (fun g hg _ => by have hg2 : (Value.slice pq 0 cq).ownBlock = some g := hg; simp [hg2]); have hM4 := k4.heap hMS (own_block_ne hqS hMS (by decide)); have m34 := cell_is hM4 3 rfl; have f34 := unfrozen hM4 3)
  have hT4 := k4.heap hTS (own_block_ne hqS hTS (by decide))
  have hset := Chg.set w4 d.M 3 (.slice (some ⟨g4, 0, none⟩) (0 + 1) c4)
  have hq4 := ownsRow_av hap.1 hset (Av.row hM4 (by decide))
  go_ret
  refine ⟨g4, c4, rfl, ?_, heap_set hM4 3 _ rfl, hq4, heap_set_ne hT4 hMT.symm _ _⟩
  refine (((k2.mono (fun x hx _ => by cases hx)).then (kS.mono ?_)).then (k4.mono ?_)).then (hset.mono ?_)
  · intro x hx _; simp only [List.mem_cons, List.not_mem_nil, or_false] at hx; rcases hx with rfl | rfl <;> simp
  · intro x hx _; exact List.mem_cons_of_mem _ (List.mem_cons_of_mem _ hx)
  · intro x hx _; rw [List.mem_singleton] at hx; subst hx; exact List.mem_cons_self
end Go.Proofs.YtgagcbgbjkjghaaGreatDoor
namespace Go.Proofs.YtgagcbgbjkjghaaGreatDoor
open Go.RowKit Go.Lib

set_option maxRecDepth 100000 in
theorem scommit_one (w : World) {d : Ids} {p : Par} {P : World → Prop} (hN : Need w d p) (hC : Calls Tryz.prog 352 #[.pointer (some ⟨d.M, 0, none⟩), .int .i64 p.h] w fun e w' => e = .returned (.int .i64 0) ∧ P w') :
    Calls Tryz.prog 341 #[.pointer (some ⟨d.P, 0, none⟩), .int .i64 p.h] w fun e w' => e = .returned (.int .i64 0) ∧ P w' := by
  have c5 := hN.p5
  have HO := Lib.hid (dead_gen w hN)
  have HC := Lib.hid hC
  clear hN hC
  go_enter Tryz.func341, Tryz.ntmps341
  go_wp2_with fail
  refine HO.out.mono ?_
  rintro e w1 ⟨rfl, rfl⟩
  go_wp2_with fail
  refine HC.out.mono ?_
  rintro e w1 ⟨rfl, hp⟩
  have HPp := Lib.hid hp
  clear hp
  go_wp2_with fail
  go_ret
  exact ⟨rfl, HPp.out⟩
theorem ty100 : Tryz.prog.underlying 165 = some (.slice 171) := by kernel_rfl
theorem inf189 : (Tryz.prog.info? 171).map (fun i => (i.zero, i.size, i.bytes)) = some (some (.agg #[.int .i64 0, .slice none 0 0]), 2, 32) := by kernel_rfl
/-- a transaction's part is put behind none, as a step of a region that draws. -/
theorem step_append_tx {ops : Array Oper} {o : Oper} {a : Act} {w : World} {K : Act → World → Prop} {Q : Exit → Act → World → Prop} {E : Prop} (hgd : o.guard = none) (s x : Operand)
    (ho : o.op = .call { callee := .builtin .append, args := #[s, x], argTypes := #[165, 165] }) (b c : Nat) (u0 u1 : Value) (hs : a.eval s = .slice none 0 0)
    (hx : a.eval x = .slice (some ⟨b, 0, none⟩) 1 c) (c0 : w.cell? ⟨b, 0, none⟩ = some u0) (c1 : w.cell? ⟨b, 1, none⟩ = some u1) (h1 : u0.oneCell' = true ∧ u1.oneCell' = true)
    (h : ∀ g cap w', w'.ownsRow w.heap.size 171 2 (.slice (some ⟨g, 0, none⟩) 1 cap) 1 [u0, u1] → Chg [] w w' → K (a.put o.dst (.slice (some ⟨g, 0, none⟩) 1 cap)) w') :
    if Region.wanted o (yielded ops a.tmps) = true then Oper.wp Tryz.prog o a w K Q else E := by
  obtain ⟨i, hi0, hz, hz1, hz2⟩ := info_parts inf189
  refine step_append_lies w hgd s x 165 ho w.heap.size 171 i _ 2 32 ty100 hi0 hz hz1 hz2 rfl (by decide) _ 0 [] hs (World.ownsRow_nil _ _ _ _) ⟨b, 0, none⟩ 1 c [u0, u1] hx rfl ?_ ?_ (by decide) (by unfold maxLen; omega) (by omega) (Nat.le_refl _) _ rfl ?_
  · intro j u hu
    rw [add_lit, Nat.zero_add]
    match j with
    | 0 => cases hu; exact c0
    | 1 => cases hu; exact c1
    | j + 2 => simp at hu
  · intro u hu
    simp at hu
    rcases hu with rfl | rfl
    · exact h1.1
    · exact h1.2
  · intro g cap w' h2 h3 _ _
    exact h g cap w' h2 (Chg.of_grown0 h3)
/-- one transaction's part: its time k, its puts l. -/
def TxOne (w : World) (lo : Nat) (v : Value) (k : Int) (l : List (Int × List UInt8)) : Prop :=
  ∃ g c cs pv, v = .slice (some ⟨g, 0, none⟩) 1 c ∧ 1 ≤ c ∧ lo ≤ g ∧ w.heap[g]? = some (.cells cs 171 (0, 0)) ∧ cs[0]? = some (.int .i64 k) ∧ cs[1]? = some pv ∧ PutsAt w lo pv l
theorem TxOne.keep {w w' : World} {lo : Nat} {v : Value} {k : Int} {l : List (Int × List UInt8)} (h : TxOne w lo v k l) (hc : Chg [] w w') : TxOne w' lo v k l := by
  obtain ⟨g, c, cs, pv, h1, h2, h3, h4, h5, h6, h7⟩ := h
  exact ⟨g, c, cs, pv, h1, h2, h3, hc.heap h4 (by simp), h5, h6, h7.keep0 hc⟩
theorem tx_of_own {w : World} {b lo g c : Nat} {k : Int} {pv : Value} {l : List (Int × List UInt8)} (ho : w.ownsRow b 171 2 (.slice (some ⟨g, 0, none⟩) 1 c) 1 [.int .i64 k, pv]) (hb : lo ≤ b) (hp : PutsAt w lo pv l) : TxOne w lo (.slice (some ⟨g, 0, none⟩) 1 c) k l := by
  rcases ho.2 with ⟨e, _⟩ | ⟨g', cap, cur, e, hA, hg, hc1, hc2, hc3, ht⟩
  · cases e
  · cases e
    have h0 : cur[0]? = some (.int .i64 k) := by
      have : (cur.toList.take (1 * 2))[0]? = some (.int .i64 k) := by rw [ht]; rfl
      rwa [List.getElem?_take_of_lt (by omega), Array.getElem?_toList] at this
    have h1 : cur[1]? = some pv := by
      have : (cur.toList.take (1 * 2))[1]? = some pv := by rw [ht]; rfl
      rwa [List.getElem?_take_of_lt (by omega), Array.getElem?_toList] at this
    exact ⟨g, c, cur, pv, rfl, hc1, by omega, hg, h0, h1, hp⟩
set_option maxRecDepth 100000 in
set_option maxHeartbeats 4000000 in
theorem waiting_one (w : World) {M X B r cq gq T W rw Q : Nat} {out num bas last given k t h : Int} {rd : Bool} {Lr L : List (Int × Value)} {D : Int → List UInt8} (hM : MgrG w M X B r (.slice (some ⟨gq, 0, none⟩) 1 cq) out num bas last given rd)
    (hq : w.cell? ⟨gq, 0, none⟩ = some (.int .i64 h)) (hr : MapAt w r Lr) (hg : getL Lr h = some (.pointer (some ⟨T, 0, none⟩))) (hT : TxW w T W Q k t) (hb : BufAt w W rw L) (hD : BufD w L D) (hk : ∀ x ∈ L, 0 ≤ x.1 ∧ x.1 < 258) (hl : L.length ≤ 1000) :
    Calls Tryz.prog 235 #[.pointer (some ⟨M, 0, none⟩)] w fun e w' => ∃ v, e = .returned v ∧ Chg [] w w' ∧ TxOne w' w.heap.size v k (putsL L D) := by
  have m3 : w.cell? ⟨M, 3, none⟩ = some (.slice (some ⟨gq, 0, none⟩) 1 cq) := cell_is hM 3 rfl
  have m2 : w.cell? ⟨M, 2, none⟩ = some (.map (some r)) := cell_is hM 2 rfl
  have t1 : w.cell? ⟨T, 1, none⟩ = some (.int .i64 k) := cell_is hT 1 rfl
  have t4 : w.cell? ⟨T, 4, none⟩ = some (.pointer (some ⟨W, 0, none⟩)) := cell_is hT 4 rfl
  have hlook : (Instr.lookup 177 (.map (some r)) (.int .i64 h) false).run Tryz.prog w = .ok (.pointer (some ⟨T, 0, none⟩)) w := by
    have := lookup178 hr h false
    rw [hg] at this
    exact this
  have kd : Chg [] w w.drew := (Chg.refl [] w).drew
  have HP := Lib.hid (bputs_any w.drew (hb.keep kd (by simp) (by simp)) (hD.keep kd) hk hl)
  have t1d : w.drew.cell? ⟨T, 1, none⟩ = some (.int .i64 k) := t1
  have t4d : w.drew.cell? ⟨T, 4, none⟩ = some (.pointer (some ⟨W, 0, none⟩)) := t4
  clear hM hr hg hT hb hD hk
  go_enter Tryz.func235, Tryz.ntmps235
  go_wp2_with fail
  go_loopw [2, 4, 5, 11] (fun v _ _ i wr => (i = .int .i64 0 ∧ w = wr ∧ v = .slice none 0 0) ∨ (i = .int .i64 1 ∧ Chg [] w wr ∧ TxOne wr w.heap.size v k (putsL L D))) (fun _ _ _ i _ => 1 - (intOf i).toNat)
  case atStart => exact Or.inl ⟨rfl, rfl, rfl⟩
  case round =>
    rcases hrel with ⟨rfl, rfl, rfl⟩ | ⟨rfl, kr, hv⟩
    · go_wp2_with fail
      go_region_law
        (first
          | (go_simp; go_at_call 234; refine HP.out.mono ?_; rintro e w6 ⟨pv, rfl, k6, hp6⟩; obtain ⟨pb, cb, rfl, hcb⟩ := own_form hp6.choose_spec.1; have t16 := k6.cell t1d (by simp); have kA : Chg [] w (w6.alloc (.cells #[.int .i64 k, (.slice pb (putsL L D).length cb)] 171)) := (kd.then k6).then_alloc _; have y0 := heap_new w6 (.cells #[.int .i64 k, (.slice pb (putsL L D).length cb)] 171); have hp7 := hp6.keep0 (Chg.alloc (S := []) w6 (.cells #[.int .i64 k, (.slice pb (putsL L D).length cb)] 171)))
          | (refine step_append_tx rfl (.tmp 21) (.tmp 32) rfl w6.heap.size 1 _ _ rfl rfl (cell_is y0 0 rfl) (cell_is y0 1 rfl) ⟨rfl, rfl⟩ ?_; intro g5 cp5 w5 o5 k5))
      all_goals
        have HF := Lib.hid (show Chg [] w w5 ∧ TxOne w5 w.heap.size (.slice (some ⟨g5, 0, none⟩) 1 cp5) k (putsL L D) from by
          refine ⟨kA.then k5, tx_of_own o5 kA.size ?_⟩
          obtain ⟨xs, ho, hx⟩ := hp7.keep0 k5
          exact ⟨xs, own_base ho (kd.size), hx⟩)
        clear kA y0 hp6 hp7 o5 k5 k6
        go_wp2_with fail
        go_roundw
        case rel => exact Or.inr ⟨rfl, HF.out⟩
        case measure => decide
    · go_wp2_with fail
      go_ret
      exact ⟨_, rfl, kr, hv⟩
end Go.Proofs.YtgagcbgbjkjghaaGreatDoor
namespace Go.Proofs.YtgagcbgbjkjghaaGreatDoor
open Go.RowKit Go.Lib

theorem TxOne.keepA {w w' : World} {T : List Nat} {lo : Nat} {v : Value} {k : Int} {l : List (Int × List UInt8)} (h : TxOne w lo v k l) (hc : Chg T w w') (hT : Av w T [171, 138, 5]) : TxOne w' lo v k l := by
  obtain ⟨g, c, cs, pv, h1, h2, h3, h4, h5, h6, h7⟩ := h
  refine ⟨g, c, cs, pv, h1, h2, h3, hc.heap h4 (hT.ne h4 (by simp)), h5, h6, h7.keep hc (fun x hx cs t fr hh ht => hT x hx cs t fr hh (by simp at ht; simp [ht])) (fun g hg => ?_)⟩
  obtain ⟨_, cs, hb⟩ := h7.block g hg
  exact hT.ne hb (by simp)
theorem TxOne.low {w : World} {lo lo' : Nat} {v : Value} {k : Int} {l : List (Int × List UInt8)} (h : TxOne w lo v k l) (hl : lo' ≤ lo) : TxOne w lo' v k l := by
  obtain ⟨g, c, cs, pv, h1, h2, h3, h4, h5, h6, xs, ho, hx⟩ := h
  exact ⟨g, c, cs, pv, h1, h2, by omega, h4, h5, h6, xs, own_base ho hl, hx⟩
/-- .. opened: the cells of a transaction's part. -/
theorem TxOne.open_ {w : World} {lo : Nat} {v : Value} {k : Int} {l : List (Int × List UInt8)} (h : TxOne w lo v k l) : ∃ g c pb cb, v = .slice (some ⟨g, 0, none⟩) 1 c ∧ 1 ≤ c ∧ lo ≤ g ∧ g < w.heap.size ∧ w.cell? ⟨g, 0, none⟩ = some (.int .i64 k) ∧ w.cell? ⟨g, 1, none⟩ = some (.slice pb l.length cb) ∧ l.length ≤ cb ∧ PutsAt w lo (.slice pb l.length cb) l := by
  obtain ⟨g, c, cs, pv, h1, h2, h3, h4, h5, h6, h7⟩ := h
  obtain ⟨pb, cb, rfl, hcb⟩ := own_form h7.choose_spec.1
  exact ⟨g, c, pb, cb, h1, h2, h3, heap_lt h4, cell_is h4 0 h5, cell_is h4 1 h6, hcb, h7⟩
set_option maxRecDepth 100000 in
set_option maxHeartbeats 1000000 in
theorem form_one (w : World) {lo : Nat} {v : Value} {k : Int} {l : List (Int × List UInt8)} (h : TxOne w lo v k l) (hl : l.length ≤ 32) : Calls Tryz.prog 236 #[v] w fun e w' => e = .returned (.int .i64 1) ∧ Chg [] w w' := by
  obtain ⟨g, c, pb, cb, rfl, -, -, -, c0, c1, hcb, -⟩ := h.open_
  clear h
  go_enter Tryz.func236, Tryz.ntmps236
  go_wp2_with fail
  go_loopw [2, 3, 5, 8] (fun n p _ i wr => (i = .int .i64 0 ∧ n = .int .i64 0 ∧ p = .int .i64 0 ∧ wr = w) ∨ (i = .int .i64 1 ∧ n = .int .i64 1 ∧ Chg [] w wr)) (fun _ _ _ i _ => 1 - (intOf i).toNat)
  case atStart => exact Or.inl ⟨rfl, rfl, rfl, rfl⟩
  case round =>
    rcases hrel with ⟨rfl, rfl, rfl, rfl⟩ | ⟨rfl, rfl, kr⟩
    · have ka : Chg [] wr (wr.alloc (.cells #[.int .i64 k, .slice pb l.length cb] 171)) := Chg.alloc wr _
      go_wp2_with fail
      go_roundw
      case rel => exact Or.inr ⟨rfl, rfl, ka⟩
      case measure => decide
    · go_wp2_with fail
      go_ret
      exact ⟨rfl, kr⟩
set_option maxRecDepth 100000 in
set_option maxHeartbeats 4000000 in
theorem tbatch_one (w : World) {M X B r cq gq : Nat} {num bas last given k : Int} {rd : Bool} {l : List (Int × List UInt8)} (hM : MgrG w M X B r (.slice (some ⟨gq, 0, none⟩) 1 cq) 0 num bas last given rd) (hl : l.length ≤ 32) (hn0 : 0 ≤ num) (hn1 : num ≤ 1000000000000)
    (hW : ∀ w1, Chg [] w w1 → Calls Tryz.prog 235 #[.pointer (some ⟨M, 0, none⟩)] w1 fun e w' => ∃ v, e = .returned v ∧ Chg [] w1 w' ∧ TxOne w' w1.heap.size v k l) :
    Calls Tryz.prog 183 #[.pointer (some ⟨M, 0, none⟩)] w fun e w' => ∃ g c, e = .returned (.tuple #[.agg #[.int .i64 (num + 1), .slice (some ⟨g, 0, none⟩) 1 c], .int .i64 0]) ∧ Chg [M] w w' ∧ MgrG w' M X B r (.slice (some ⟨gq, 0, none⟩) 1 cq) 1 num bas last given rd ∧ TxOne w' w.heap.size (.slice (some ⟨g, 0, none⟩) 1 c) k l := by
  have k0 : Chg [] w (w.alloc (.cells #[.int .i64 0, .slice none 0 0] 167)) := Chg.alloc w _
  have K0 := heap_new w (.cells #[.int .i64 0, .slice none 0 0] 167)
  have hM0 := k0.heap hM (by simp)
  have HW := Lib.hid (hW _ k0)
  have m0 : (w.alloc (.cells #[.int .i64 0, .slice none 0 0] 167)).cell? ⟨M, 0, none⟩ = some (.pointer (some ⟨X, 0, none⟩)) := cell_is hM0 0 rfl
  have m4 : (w.alloc (.cells #[.int .i64 0, .slice none 0 0] 167)).cell? ⟨M, 4, none⟩ = some (.int .i64 0) := cell_is hM0 4 rfl
  have m3 : (w.alloc (.cells #[.int .i64 0, .slice none 0 0] 167)).cell? ⟨M, 3, none⟩ = some (.slice (some ⟨gq, 0, none⟩) 1 cq) := cell_is hM0 3 rfl
  have hgone : ∀ w1 : World, w1.cell? ⟨M, 0, none⟩ = some (.pointer (some ⟨X, 0, none⟩)) → Calls Tryz.prog 97 #[.pointer (some ⟨M, 0, none⟩)] w1 fun e w' => e = .returned (.bool false) ∧ w1 = w' := by
    intro w1 c0
    clear hW HW hM hM0 m0 m4 m3 K0
    go_enter Tryz.func97, Tryz.ntmps97
    go_wp2_with fail
    go_ret
    exact ⟨rfl, rfl⟩
  have HG := Lib.hid (hgone _ m0)
  clear hW hM hgone
  go_enter Tryz.func183, Tryz.ntmps183
  go_wp2_with fail
  generalize w.alloc (.cells #[.int .i64 0, .slice none 0 0] 167) = w1 at *
  generalize hR : w.heap.size = R at *
  refine HG.out.mono ?_
  rintro e w2 ⟨rfl, rfl⟩
  go_wp2_with fail
  refine HW.out.mono ?_
  rintro e w2 ⟨v, rfl, k2, ht⟩
  have hM2 := k2.heap hM0 (by simp)
  have K2 := k2.heap K0 (by simp)
  have HF := Lib.hid (form_one w2 ht hl)
  have kk2 := k0.then k2
  obtain ⟨g, c, pb, cb, rfl, hc1, hlo, -, -, -, -, -⟩ := ht.open_
  have HT := Lib.hid ht
  clear m0 m4 m3 ht hM0 K0 HG HW
  go_wp2_with fail
  refine HF.out.mono ?_
  rintro e w3 ⟨rfl, k3⟩
  have hM3 := k3.heap hM2 (by simp)
  have K3 := k3.heap K2 (by simp)
  have HT3 := Lib.hid (HT.out.keep k3)
  have kk3 := kk2.then k3
  have m4 : w3.cell? ⟨M, 4, none⟩ = some (.int .i64 0) := cell_is hM3 4 rfl
  have f4 := unfrozen hM3 4
  clear hM2 K2 HF HT k3 kk2
  have hMR : M ≠ R := heap_ne hM3 K3 (by simp)
  have kS := Chg.set w3 M 4 (.int .i64 1)
  have hM4 : MgrG (w3.setCell ⟨M, 4, none⟩ (.int .i64 1)) M X B r (.slice (some ⟨gq, 0, none⟩) 1 cq) 1 num bas last given rd := heap_set hM3 4 _ rfl
  have K4 := heap_set_ne K3 hMR.symm 4 (.int .i64 1)
  have HT4 := Lib.hid (HT3.out.keepA kS (Av.row hM3 (by decide)))
  have kk4 : Chg [M] w (w3.setCell ⟨M, 4, none⟩ (.int .i64 1)) := (kk3.mono (fun x hx _ => by cases hx)).then kS
  go_upto_region 9 with fail
  clear kk3 K3 hM3 HT3 m4 f4 kS
  generalize w3.setCell ⟨M, 4, none⟩ (.int .i64 1) = w4 at *
  have n5 : w4.drew.cell? ⟨M, 5, none⟩ = some (.int .i64 num) := cell_is hM4 5 rfl
  have n4 : w4.drew.cell? ⟨M, 4, none⟩ = some (.int .i64 1) := cell_is hM4 4 rfl
  have r0 : w4.drew.cell? ⟨R, 0, none⟩ = some (.int .i64 0) := cell_is K4 0 rfl
  have r1 : w4.drew.cell? ⟨R, 1, none⟩ = some (.slice none 0 0) := cell_is K4 1 rfl
  have z0 : w4.drew.frozen? ⟨R, 0, none⟩ = false := unfrozen K4 0
  have z1 : w4.drew.frozen? ⟨R, 1, none⟩ = false := unfrozen K4 1
  have r0' : w4.cell? ⟨R, 0, none⟩ = some (.int .i64 0) := r0
  have r1' : w4.cell? ⟨R, 1, none⟩ = some (.slice none 0 0) := r1
  have z0' : w4.frozen? ⟨R, 0, none⟩ = false := z0
  have z1' : w4.frozen? ⟨R, 1, none⟩ = false := z1
  have hcl : (1 : Int) ≤ c := by omega
  have hnw : IntKind.i64.wrap (num + 1) = num + 1 := by rw [IntKind.wrap_i64]; omega
  have kR : ∀ a b, Chg [R] w4 ((w4.setCell ⟨R, 0, none⟩ a).setCell ⟨R, 1, none⟩ b).drew := fun a b => (((Chg.refl [R] w4).then_set (fun _ => by simp) 0 a).then_set (fun _ => by simp) 1 b).drew
  have fR : ∀ a b, ((w4.setCell ⟨R, 0, none⟩ a).setCell ⟨R, 1, none⟩ b).drew.cell? ⟨M, 5, none⟩ = some (.int .i64 num) ∧ ((w4.setCell ⟨R, 0, none⟩ a).setCell ⟨R, 1, none⟩ b).drew.cell? ⟨M, 4, none⟩ = some (.int .i64 1) := fun a b => ⟨(kR a b).cell n5 (by simpa using hMR), (kR a b).cell n4 (by simpa using hMR)⟩
  go_region_held3 (fun wx => wx.cell? ⟨M, 5, none⟩ = some (.int .i64 num) ∧ wx.cell? ⟨M, 4, none⟩ = some (.int .i64 1))
    (first | (with_reducible exact ⟨n5, n4⟩) | (with_reducible exact fR _ _))
    (first | (fail))
  all_goals
    have kF := kR (.int .i64 (num + 1)) (.slice (some ⟨g, 0, none⟩) 1 c)
    have K6 : ((w4.setCell ⟨R, 0, none⟩ (.int .i64 (num + 1))).setCell ⟨R, 1, none⟩ (.slice (some ⟨g, 0, none⟩) 1 c)).drew.heap[R]? = some (.cells #[.int .i64 (num + 1), .slice (some ⟨g, 0, none⟩) 1 c] 167 (0, 0)) := heap_set (heap_set K4 0 _ rfl) 1 _ rfl
    have hM6 := kF.heap hM4 (by simpa using hMR)
    have HT6 := Lib.hid (HT4.out.keepA kF (Av.row K4 (by decide)))
    have kk6 : Chg [M] w ((w4.setCell ⟨R, 0, none⟩ (.int .i64 (num + 1))).setCell ⟨R, 1, none⟩ (.slice (some ⟨g, 0, none⟩) 1 c)).drew := kk4.trans kF (fun x hx hlt => by rw [List.mem_singleton] at hx; omega)
    have c0 : ((w4.setCell ⟨R, 0, none⟩ (.int .i64 (num + 1))).setCell ⟨R, 1, none⟩ (.slice (some ⟨g, 0, none⟩) 1 c)).drew.cell? ⟨R, 0, none⟩ = some (.int .i64 (num + 1)) := cell_is K6 0 rfl
    have c1 : ((w4.setCell ⟨R, 0, none⟩ (.int .i64 (num + 1))).setCell ⟨R, 1, none⟩ (.slice (some ⟨g, 0, none⟩) 1 c)).drew.cell? ⟨R, 1, none⟩ = some (.slice (some ⟨g, 0, none⟩) 1 c) := cell_is K6 1 rfl
    clear kR fR HT4 r0 r1 z0 z1 r0' r1' z0' z1' n5 n4 K4
    go_wp2_with fail
    refine bodyPost_ret (v := .tuple #[.agg #[.int .i64 (num + 1), .slice (some ⟨g, 0, none⟩) 1 c], .int .i64 0]) (by simp [results, Tryz.results183, go_sem, c0, c1]) rfl ?_
    exact ⟨g, c, rfl, kk6, hM6, HT6.out.low (by rw [hR]; have := k0.size; omega)⟩
end Go.Proofs.YtgagcbgbjkjghaaGreatDoor
namespace Go.Proofs.YtgagcbgbjkjghaaGreatDoor
open Go.RowKit Go.Lib

/-- the numbers of puts rise. -/
def Rise (l : List (Int × List UInt8)) : Prop := ∀ i (h : i + 1 < l.length), l[i].1 < l[i + 1].1
set_option maxRecDepth 100000 in
set_option maxHeartbeats 4000000 in
theorem order_one (w : World) {lo : Nat} {v : Value} {k : Int} {l : List (Int × List UInt8)} (h : TxOne w lo v k l) (hk0 : 1 ≤ k) (hk1 : k ≤ 1099511627776) (hl0 : 0 < l.length) (hl : l.length ≤ 1000) (hr : Rise l) : Calls Tryz.prog 278 #[v] w fun e w' => e = .returned (.bool true) ∧ Chg [] w w' := by
  obtain ⟨g, c, pb, cb, rfl, -, -, -, c0, c1, hcb, hp⟩ := h.open_
  have HP := Lib.hid hp
  have HR := Lib.hid hr
  have n0 : decide (k ≤ 0) = false := decide_eq_false (by omega)
  have n1 : decide (1099511627776 < k) = false := decide_eq_false (by omega)
  have n2 : ((l.length : Int) == 0) = false := beq_eq_false_iff_ne.2 (by omega)
  have hcbi : (l.length : Int) ≤ cb := by omega
  clear h hp hr
  go_enter Tryz.func278, Tryz.ntmps278
  go_wp2_with fail
  go_loopw [3, 5, 6, 9] (fun s _ _ i wr => (i = .int .i64 0 ∧ s = .int .i64 0 ∧ wr = w) ∨ (i = .int .i64 1 ∧ Chg [] w wr)) (fun _ _ _ i _ => 1 - (intOf i).toNat)
  case atStart => exact Or.inl ⟨rfl, rfl, rfl⟩
  case round =>
    rcases hrel with ⟨rfl, rfl, rfl⟩ | ⟨rfl, kr⟩
    · have ka : Chg [] wr (wr.alloc (.cells #[.int .i64 k, .slice pb l.length cb] 171)) := Chg.alloc wr _
      have A0 := heap_new wr (.cells #[.int .i64 k, .slice pb l.length cb] 171)
      go_wp2_with fail
      generalize hzz : wr.heap.size = z at *
      generalize wr.alloc (.cells #[.int .i64 k, .slice pb l.length cb] 171) = w2 at *
      go_loopw [6] (fun i wz => ∃ j : Nat, 1 ≤ j ∧ j ≤ l.length ∧ i = .int .i64 j ∧ Chg [] w2 wz) (fun i _ => l.length - (intOf i).toNat)
      case atStart => exact ⟨1, by omega, by omega, rfl, Chg.refl _ _⟩
      case round =>
        obtain ⟨j, hj1, hj, rfl, kz⟩ := hrel
        rename World => wz
        have b1 : wz.cell? ⟨z, 1, none⟩ = some (.slice pb l.length cb) := cell_is (kz.heap A0 (by simp)) 1 rfl
        by_cases hlt : j < l.length
        · obtain ⟨q, rfl⟩ : ∃ q, j = q + 1 := ⟨j - 1, by omega⟩
          have hP2 := (HP.out.keep0 ka).keep0 kz
          obtain ⟨gp, cap, gd, cd, hv, -, d1, -, -, -, -⟩ := hP2.get (q + 1) hlt
          obtain ⟨gp', cap', gd', cd', hv', -, d0, -, -, -, -⟩ := hP2.get q (by omega)
          cases hv
          cases hv'
          have hlt2 := HR.out q hlt
          have hnle : decide ((l[q + 1]).1 ≤ (l[q]'(by omega)).1) = false := decide_eq_false (by omega)
          have hwq : IntKind.i64.wrap (((q + 1 : Nat) : Int) - 1) = q := by rw [IntKind.wrap_i64]; omega
          have hqi : (q : Int) < l.length := by omega
          have hqi2 : ((q + 1 : Nat) : Int) < l.length := by omega
          clear hP2 HP HR hlt2
          generalize (l[q + 1]).1 = x at *
          generalize (l[q]'(by omega)).1 = y at *
          go_wp2_with fail
          go_quiet (fail)
          go_wp2_with fail
          exact ⟨⟨q + 2, by omega, by omega, by go_num, kz.drewN nq⟩, by simp [intOf]; omega⟩
        · obtain rfl : j = l.length := by omega
          go_wp2_with fail
          exact ⟨Or.inr ⟨rfl, ka.then kz⟩, by decide⟩
    · go_wp2_with fail
      go_ret
      exact ⟨rfl, kr⟩
set_option maxRecDepth 100000 in
set_option maxHeartbeats 1000000 in
theorem blocks_one (w : World) {lo : Nat} {v : Value} {k num : Int} {l : List (Int × List UInt8)} (h : TxOne w lo v k l) (hl : l.length ≤ 1000) : Calls Tryz.prog 279 #[.agg #[.int .i64 num, v]] w fun e w' => e = .returned (.int .i64 ((1 + l.length : Nat) : Int)) ∧ Chg [] w w' := by
  have k0 : Chg [] w (w.alloc (.cells #[.int .i64 num, v] 167)) := Chg.alloc w _
  have K0 := heap_new w (.cells #[.int .i64 num, v] 167)
  obtain ⟨g, c, pb, cb, rfl, -, -, -, c0, c1, hcb, -⟩ := (h.keep k0).open_
  have b1 : (w.alloc (.cells #[.int .i64 num, .slice (some ⟨g, 0, none⟩) 1 c] 167)).cell? ⟨w.heap.size, 1, none⟩ = some (.slice (some ⟨g, 0, none⟩) 1 c) := cell_is K0 1 rfl
  clear h K0
  go_enter Tryz.func279, Tryz.ntmps279
  go_wp2_with fail
  generalize w.alloc (.cells #[.int .i64 num, .slice (some ⟨g, 0, none⟩) 1 c] 167) = w1 at *
  go_loopw [3, 5, 9] (fun n _ i wr => (i = .int .i64 0 ∧ n = .int .i64 1 ∧ wr = w1) ∨ (i = .int .i64 1 ∧ n = .int .i64 ((1 + l.length : Nat) : Int) ∧ Chg [] w1 wr)) (fun _ _ i _ => 1 - (intOf i).toNat)
  case atStart => exact Or.inl ⟨rfl, rfl, rfl⟩
  case round =>
    rcases hrel with ⟨rfl, rfl, rfl⟩ | ⟨rfl, rfl, kr⟩
    · have ka : Chg [] wr (wr.alloc (.cells #[.int .i64 k, .slice pb l.length cb] 171)) := Chg.alloc wr _
      go_wp2_with fail
      go_roundw
      case rel => exact Or.inr ⟨rfl, by go_num, ka⟩
      case measure => decide
    · go_wp2_with fail
      go_ret
      exact ⟨rfl, k0.then kr⟩
set_option maxRecDepth 100000 in
theorem bput_ok (w : World) {b : Int} {pd : Option Addr} {cd : Nat} (h0 : 0 ≤ b) (h1 : b < 258) : Calls Tryz.prog 281 #[.agg #[.int .i64 b, .slice pd 40 cd]] w fun e w' => e = .returned (.bool true) ∧ Chg [] w w' := by
  have kc : Chg [] w (w.alloc (.cells #[.int .i64 b, .slice pd 40 cd] 138)) := Chg.alloc w _
  have n0 : decide (0 ≤ b) = true := decide_eq_true h0
  have n1 : decide (b ≤ 1048576) = true := decide_eq_true (by omega)
  go_enter Tryz.func281, Tryz.ntmps281
  go_wp2_with fail
  go_ret
  exact ⟨rfl, kc⟩
set_option maxRecDepth 100000 in
theorem bcheck1_ok (w : World) {b : Int} {pd : Option Addr} {cd : Nat} (h0 : 0 ≤ b) (h1 : b < 258) : Calls Tryz.prog 280 #[.agg #[.int .i64 b, .slice pd 40 cd]] w fun e w' => e = .returned (.bool false) ∧ Chg [] w w' := by
  have kc : Chg [] w (w.alloc (.cells #[.int .i64 b, .slice pd 40 cd] 138)) := Chg.alloc w _
  go_enter Tryz.func280, Tryz.ntmps280
  go_wp2_with fail
  refine (bput_ok _ h0 h1).mono ?_
  rintro e w2 ⟨rfl, k2⟩
  go_wp2_with fail
  go_ret
  exact ⟨rfl, kc.then k2⟩
set_option maxRecDepth 100000 in
theorem apply1_ok (w : World) {b : Int} {pd : Option Addr} {cd : Nat} : Calls Tryz.prog 162 #[.agg #[.int .i64 b, .slice pd 40 cd]] w fun e w' => e = .returned (.bool false) ∧ Chg [] w w' := by
  have kc : Chg [] w (w.alloc (.cells #[.int .i64 b, .slice pd 40 cd] 138)) := Chg.alloc w _
  go_enter Tryz.func162, Tryz.ntmps162
  go_wp2_with fail
  go_ret
  exact ⟨rfl, kc⟩
set_option maxRecDepth 100000 in
set_option maxHeartbeats 1000000 in
/-- IndexFunc over puts, by a function that says no. -/
theorem idxputs_200 (w : World) {lo cb : Nat} {pb : Option Addr} {l : List (Int × List UInt8)} (hp : PutsAt w lo (.slice pb l.length cb) l) (hk : ∀ x ∈ l, 0 ≤ x.1 ∧ x.1 < 258) (hl : l.length ≤ 1000) : Calls Tryz.prog 218 #[.slice pb l.length cb, .func (.func 280) #[] #[]] w fun e w' => e = .returned (.int .i64 (-1)) ∧ Chg [] w w' := by
  have hG : ∀ (w1 : World) (b : Int) (pd : Option Addr) (cd : Nat), 0 ≤ b → b < 258 → Calls Tryz.prog 280 #[.agg #[.int .i64 b, .slice pd 40 cd]] w1 fun e w' => e = .returned (.bool false) ∧ Chg [] w1 w' := fun w1 b pd cd h0 h1 => bcheck1_ok w1 h0 h1
  have HG := Lib.hid hG
  have HP := Lib.hid hp
  have HK := Lib.hid hk
  have hcb : l.length ≤ cb := by obtain ⟨pa, c, e, h⟩ := own_form hp.choose_spec.1; cases e; exact h
  clear hG hp hk
  go_enter Tryz.func218, Tryz.ntmps218
  go_wp2_with fail
  go_loopw [5, 8] (fun _ i wr => ∃ j : Nat, j ≤ l.length ∧ i = .int .i64 j ∧ Chg [] w wr) (fun _ i _ => l.length - (intOf i).toNat)
  case atStart => exact ⟨0, by omega, rfl, Chg.refl _ _⟩
  case round =>
    obtain ⟨j, hj, rfl, kr⟩ := hrel
    by_cases hlt : j < l.length
    · obtain ⟨g, cap, gd, cd, hv, -, d0, d1, -, -, -⟩ := (HP.out.keep0 kr).get j hlt
      cases hv
      have hb := HK.out l[j] (List.getElem_mem hlt)
      have HB := Lib.hid (HG.out wr l[j].1 (some ⟨gd, 0, none⟩) cd hb.1 hb.2)
      clear hb
      generalize (l[j]).1 = x at *
      go_wp2_with fail
      refine HB.out.mono ?_
      rintro e w2 ⟨rfl, k2⟩
      go_wp2_with fail
      go_roundw
      case rel => exact ⟨j + 1, by omega, by simp, kr.then k2⟩
      case measure => simp [intOf]; omega
    · obtain rfl : j = l.length := by omega
      go_wp2_with fail
      go_ret
      exact ⟨rfl, kr⟩
set_option maxRecDepth 100000 in
theorem contputs_200 (w : World) {lo cb : Nat} {pb : Option Addr} {l : List (Int × List UInt8)} (hp : PutsAt w lo (.slice pb l.length cb) l) (hk : ∀ x ∈ l, 0 ≤ x.1 ∧ x.1 < 258) (hl : l.length ≤ 1000) : Calls Tryz.prog 161 #[.slice pb l.length cb, .func (.func 280) #[] #[]] w fun e w' => e = .returned (.bool false) ∧ Chg [] w w' := by
  have HI := Lib.hid (idxputs_200 w hp hk hl)
  clear hp hk
  go_enter Tryz.func161, Tryz.ntmps161
  go_wp2_with fail
  refine HI.out.mono ?_
  rintro e w2 ⟨rfl, k⟩
  go_wp2_with fail
  go_ret
  exact ⟨rfl, k⟩
set_option maxRecDepth 100000 in
set_option maxHeartbeats 1000000 in
/-- IndexFunc over puts, by a function that says no. -/
theorem idxputs_164 (w : World) {lo cb : Nat} {pb : Option Addr} {l : List (Int × List UInt8)} (hp : PutsAt w lo (.slice pb l.length cb) l) (hk : ∀ x ∈ l, 0 ≤ x.1 ∧ x.1 < 258) (hl : l.length ≤ 1000) : Calls Tryz.prog 218 #[.slice pb l.length cb, .func (.func 162) #[] #[]] w fun e w' => e = .returned (.int .i64 (-1)) ∧ Chg [] w w' := by
  have hG : ∀ (w1 : World) (b : Int) (pd : Option Addr) (cd : Nat), 0 ≤ b → b < 258 → Calls Tryz.prog 162 #[.agg #[.int .i64 b, .slice pd 40 cd]] w1 fun e w' => e = .returned (.bool false) ∧ Chg [] w1 w' := fun w1 _ _ _ _ _ => apply1_ok w1
  have HG := Lib.hid hG
  have HP := Lib.hid hp
  have HK := Lib.hid hk
  have hcb : l.length ≤ cb := by obtain ⟨pa, c, e, h⟩ := own_form hp.choose_spec.1; cases e; exact h
  clear hG hp hk
  go_enter Tryz.func218, Tryz.ntmps218
  go_wp2_with fail
  go_loopw [5, 8] (fun _ i wr => ∃ j : Nat, j ≤ l.length ∧ i = .int .i64 j ∧ Chg [] w wr) (fun _ i _ => l.length - (intOf i).toNat)
  case atStart => exact ⟨0, by omega, rfl, Chg.refl _ _⟩
  case round =>
    obtain ⟨j, hj, rfl, kr⟩ := hrel
    by_cases hlt : j < l.length
    · obtain ⟨g, cap, gd, cd, hv, -, d0, d1, -, -, -⟩ := (HP.out.keep0 kr).get j hlt
      cases hv
      have hb := HK.out l[j] (List.getElem_mem hlt)
      have HB := Lib.hid (HG.out wr l[j].1 (some ⟨gd, 0, none⟩) cd hb.1 hb.2)
      clear hb
      generalize (l[j]).1 = x at *
      go_wp2_with fail
      refine HB.out.mono ?_
      rintro e w2 ⟨rfl, k2⟩
      go_wp2_with fail
      go_roundw
      case rel => exact ⟨j + 1, by omega, by simp, kr.then k2⟩
      case measure => simp [intOf]; omega
    · obtain rfl : j = l.length := by omega
      go_wp2_with fail
      go_ret
      exact ⟨rfl, kr⟩
set_option maxRecDepth 100000 in
theorem contputs_164 (w : World) {lo cb : Nat} {pb : Option Addr} {l : List (Int × List UInt8)} (hp : PutsAt w lo (.slice pb l.length cb) l) (hk : ∀ x ∈ l, 0 ≤ x.1 ∧ x.1 < 258) (hl : l.length ≤ 1000) : Calls Tryz.prog 161 #[.slice pb l.length cb, .func (.func 162) #[] #[]] w fun e w' => e = .returned (.bool false) ∧ Chg [] w w' := by
  have HI := Lib.hid (idxputs_164 w hp hk hl)
  clear hp hk
  go_enter Tryz.func161, Tryz.ntmps161
  go_wp2_with fail
  refine HI.out.mono ?_
  rintro e w2 ⟨rfl, k⟩
  go_wp2_with fail
  go_ret
  exact ⟨rfl, k⟩
end Go.Proofs.YtgagcbgbjkjghaaGreatDoor
namespace Go.Proofs.YtgagcbgbjkjghaaGreatDoor
open Go.RowKit Go.Lib

theorem still_of_quiet {P : Program} {ops : Array Oper} {w : World} {Q : Act → Prop} : ∀ (l : List Oper) (a : Act), wpQuiet P ops (fun w' => w' = w) Q l a → wpStill P ops w Q l a
  | [], _, h => h
  | o :: l, a, h => by
    unfold wpQuiet at h
    unfold wpStill
    by_cases hw : Region.wanted o (yielded ops a.tmps) = true
    · rw [if_pos hw] at h ⊢
      obtain ⟨v, h1, h2⟩ := h
      have h3 := h1 w rfl
      unfold Oper.quietAt at h3
      unfold Oper.still
      generalize (execOp a.eval o).run P w = r at h3
      unfold Oper.quietUpon at h3
      unfold Oper.stillUpon
      split at h3
      · obtain ⟨rfl, rfl⟩ := h3; exact ⟨rfl, still_of_quiet l _ h2⟩
      · obtain ⟨rfl, rfl⟩ := h3; exact ⟨rfl, still_of_quiet l _ h2⟩
      · obtain ⟨rfl, h4⟩ := h3; exact ⟨rfl, v, h4, still_of_quiet l _ h2⟩
      · exact h3.elim
    · rw [if_neg hw] at h ⊢
      exact still_of_quiet l _ h
/-- a region that draws: operations that only read, guarded or not, then a tail in one order. -/
theorem region_tail {P : Program} {id : Nat} {Q : Exit → Act → World → Prop} {a : Act} {w : World} {l : List Oper} (n : Nat) (hm : P.follows .mixedOrders = true) (hB : Region.lexTailB .any l.toArray n = true)
    (h : wpQuiet P l.toArray (fun w' => w' = w.drew) (fun a' => wpList P l.toArray Q (l.drop n) a' w.drew) (l.take n) a) : (Code.region id l.toArray true).wp P Q a w :=
  wp_region_still_tail n hm hB (still_of_quiet _ _ h)

set_option maxRecDepth 100000 in
set_option maxHeartbeats 4000000 in
theorem bcheck_one (w : World) {lo : Nat} {v : Value} {k num : Int} {l : List (Int × List UInt8)} (h : TxOne w lo v k l) (hn0 : 1 ≤ num) (hn1 : num ≤ 1099511627776) (hk0 : 1 ≤ k) (hk1 : k ≤ 1099511627776) (hl0 : 0 < l.length) (hl : l.length ≤ 16) (hr : Rise l) (hk : ∀ x ∈ l, 0 ≤ x.1 ∧ x.1 < 258) :
    Calls Tryz.prog 217 #[.agg #[.int .i64 num, v]] w fun e w' => e = .returned (.int .i64 0) ∧ Chg [] w w' := by
  have k0 : Chg [] w (w.alloc (.cells #[.int .i64 num, v] 167)) := Chg.alloc w _
  have K0 := heap_new w (.cells #[.int .i64 num, v] 167)
  have h1 := h.keep k0
  obtain ⟨g, c, pb, cb, rfl, hc1, -, -, c0, c1, hcb, hp⟩ := h1.open_
  have b0 : (w.alloc (.cells #[.int .i64 num, .slice (some ⟨g, 0, none⟩) 1 c] 167)).cell? ⟨w.heap.size, 0, none⟩ = some (.int .i64 num) := cell_is K0 0 rfl
  have b1 : (w.alloc (.cells #[.int .i64 num, .slice (some ⟨g, 0, none⟩) 1 c] 167)).cell? ⟨w.heap.size, 1, none⟩ = some (.slice (some ⟨g, 0, none⟩) 1 c) := cell_is K0 1 rfl
  have n0 : decide (num < 1) = false := decide_eq_false (by omega)
  have n1 : decide (1099511627776 < num) = false := decide_eq_false (by omega)
  have n2 : decide (16 < (l.length : Int)) = false := decide_eq_false (by omega)
  have n3 : decide (33 < ((1 + l.length : Nat) : Int)) = false := decide_eq_false (by omega)
  have n3' : decide (33 < 1 + (l.length : Int)) = false := decide_eq_false (by omega)
  have HO := Lib.hid (order_one _ h1 hk0 hk1 hl0 (by omega) hr)
  have HB := Lib.hid (fun w1 (kk : Chg [] (w.alloc (.cells #[.int .i64 num, .slice (some ⟨g, 0, none⟩) 1 c] 167)) w1) => blocks_one w1 (num := num) (h1.keep kk) (by omega))
  have HC := Lib.hid (fun w1 (kk : Chg [] (w.alloc (.cells #[.int .i64 num, .slice (some ⟨g, 0, none⟩) 1 c] 167)) w1) => contputs_200 w1 (hp.keep0 kk) hk (by omega))
  clear h h1 hp hr hk
  go_enter Tryz.func217, Tryz.ntmps217
  go_wp2_with fail
  generalize w.alloc (.cells #[.int .i64 num, .slice (some ⟨g, 0, none⟩) 1 c] 167) = w1 at *
  generalize hz : w.heap.size = z at *
  refine HO.out.mono ?_
  rintro e w2 ⟨rfl, k2⟩
  have b02 := k2.cell b0 (by simp)
  have b12 := k2.cell b1 (by simp)
  go_wp2_with fail
  refine (HB.out w2 k2).mono ?_
  rintro e w3 ⟨rfl, k3⟩
  have k23 := k2.then k3
  have b13 := k23.cell b1 (by simp)
  have c03 := k23.cell c0 (by simp)
  have c13 := k23.cell c1 (by simp)
  clear HO HB
  go_wp2_with fail
  go_loopw [3, 4, 39] (fun _ _ i wr => (i = .int .i64 0 ∧ wr = w3) ∨ (i = .int .i64 1 ∧ Chg [] w1 wr)) (fun _ _ i _ => 1 - (intOf i).toNat)
  case atStart => exact Or.inl ⟨rfl, rfl⟩
  case round =>
    rcases hrel with ⟨rfl, rfl⟩ | ⟨rfl, kr⟩
    · have ka : Chg [] wr (wr.alloc (.cells #[.int .i64 k, .slice pb l.length cb] 171)) := Chg.alloc wr _
      have A0 := heap_new wr (.cells #[.int .i64 k, .slice pb l.length cb] 171)
      have HC4 := Lib.hid (HC.out _ ((k23.then ka).drew))
      go_wp2_with fail
      generalize wr.alloc (.cells #[.int .i64 k, .slice pb l.length cb] 171) = w4 at *
      generalize wr.heap.size = z4 at *
      have a1 : w4.cell? ⟨z4, 1, none⟩ = some (.slice pb l.length cb) := cell_is A0 1 rfl
      have a1d : w4.drew.cell? ⟨z4, 1, none⟩ = some (.slice pb l.length cb) := a1
      refine region_tail 24 (by kernel_rfl) (by kernel_rfl) ?_
      simp only [List.take_succ_cons, List.take_zero, List.drop_succ_cons, List.drop_zero]
      repeat (go_big_quiet_step (fail))
      refine wpQuiet_nil ?_
      go_wp2_with fail
      refine HC4.out.mono ?_
      rintro e w6 ⟨rfl, k6⟩
      have kf := ((k23.then ka).drew).then k6
      clear HC4 HC k6
      go_wp2_with fail
      go_roundw
      case rel => exact Or.inr ⟨rfl, kf⟩
      case measure => decide
    · go_wp2_with fail
      go_ret
      exact ⟨rfl, k0.then kr⟩
end Go.Proofs.YtgagcbgbjkjghaaGreatDoor
namespace Go.Proofs.YtgagcbgbjkjghaaGreatDoor
open Go.RowKit Go.Lib

/-- the frames of the puts. -/
def datL (e num : Nat) (l : List (Int × List UInt8)) : List (List UInt8) := l.map fun x => encF 1 e num x.1.toNat x.2
/-- what the last frame tells. -/
def bodL (k n : Nat) : List UInt8 := leB k 8 ++ [1, 0, 0, UInt8.ofNat n]
def batL (e num k : Nat) (l : List (Int × List UInt8)) : List (List UInt8) := datL e num l ++ [encF 2 e num l.length (bodL k l.length)]
theorem datL_length (e num : Nat) (l : List (Int × List UInt8)) : (datL e num l).length = l.length := by simp [datL]
theorem batL_length (e num k : Nat) (l : List (Int × List UInt8)) : (batL e num k l).length = l.length + 1 := by simp [batL, datL_length]
theorem own_of_row {w : World} {base e g : Nat} {r : List UInt8} (h : w.heap[g]? = some (.cells (Lib.byteCells r).toArray e (0, 0))) (hb : base ≤ g) (hr : r.length ≤ 1000) {n : Nat} (hn : r.length = n) : w.ownsRow base e 1 (.slice (some ⟨g, 0, none⟩) n n) n (Lib.byteCells r) := by
  subst hn
  exact ⟨by simp [Lib.byteCells], .inr ⟨g, r.length, _, rfl, hb, h, Nat.le_refl _, by unfold maxLen; omega, by simp [Lib.byteCells], by rw [List.take_of_length_le (by simp [Lib.byteCells])]⟩⟩
set_option maxRecDepth 100000 in
theorem put64_own (w : World) (v : Nat) (hv : v < 18446744073709551616) {base : Nat} (hb : base ≤ w.heap.size) : Calls Tryz.prog 169 #[.int .u64 v] w fun e w' => ∃ g, e = .returned (.slice (some ⟨g, 0, none⟩) 8 8) ∧ Chg [] w w' ∧ w'.ownsRow base 5 1 (.slice (some ⟨g, 0, none⟩) 8 8) 8 (Lib.byteCells (leB v 8)) := by
  have HP := Lib.hid (bput_any w v 8 (by omega) hv (fun w => by kernel_rfl))
  go_enter Tryz.func169, Tryz.ntmps169
  go_wp2_with fail
  refine HP.out.mono ?_
  rintro e w' ⟨g, rfl, h1, h2, h3⟩
  rw [rowL_full] at h2
  have h4 := own_of_row h2 (Nat.le_trans hb h3) (by rw [leB_length]; decide) (leB_length _ _)
  clear h2
  go_wp2_with fail
  go_ret
  exact ⟨g, rfl, h1, h4⟩
/-- one byte is put behind an own row, as a step of a region that draws. -/
theorem step_append_u8 {ops : Array Oper} {o : Oper} {a : Act} {w : World} {K : Act → World → Prop} {Q : Exit → Act → World → Prop} {E : Prop} (hgd : o.guard = none) (s x : Operand)
    (ho : o.op = .call { callee := .builtin .append, args := #[s, x], argTypes := #[23, 23] }) (base : Nat) (v : Value) (n : Nat) (xs : List UInt8) (hs : a.eval s = v) (hown : w.ownsRow base 5 1 v n (Lib.byteCells xs)) (b c : Nat) (u : UInt8)
    (hx : a.eval x = .slice (some ⟨b, 0, none⟩) 1 c) (c0 : w.cell? ⟨b, 0, none⟩ = some (.int .u8 u.toNat)) (hn : n ≤ 1000000) (hbase : base ≤ w.heap.size)
    (h : ∀ g cap w', w'.ownsRow base 5 1 (.slice (some ⟨g, 0, none⟩) (n + 1) cap) (n + 1) (Lib.byteCells (xs ++ [u])) → Below base w w' → K (a.put o.dst (.slice (some ⟨g, 0, none⟩) (n + 1) cap)) w') :
    if Region.wanted o (yielded ops a.tmps) = true then Oper.wp Tryz.prog o a w K Q else E := by
  obtain ⟨i, hi0, hz, hz1, hz2⟩ := info_parts inf5c
  refine step_append_lies w hgd s x 23 ho base 5 i _ 1 1 ty23 hi0 hz hz1 hz2 rfl (by decide) v n _ hs hown ⟨b, 0, none⟩ 1 c [.int .u8 u.toNat] hx rfl ?_ ?_ (by decide) (by unfold maxLen; omega) (by omega) hbase _ rfl ?_
  · intro j u' hu
    rw [add_lit, Nat.zero_add]
    match j with
    | 0 => cases hu; exact c0
    | j + 1 => simp at hu
  · intro u' hu
    simp at hu
    rcases hu with rfl
    rfl
  · intro g cap w' h2 h3 h4 _
    refine h g cap w' (by rw [byteCells_app]; exact h2) (below_grown hown h3 hbase)
theorem RowsAt.app {w0 w' : World} {base gb cb n : Nat} {v v' : Value} {l : List (List UInt8)} {b : List UInt8} {xs : List Value} (hx : ∀ i (h : i < l.length), ∃ g c, xs[i]? = some (.slice (some ⟨g, 0, none⟩) 64 c) ∧ Bs w0 (some ⟨g, 0, none⟩) l[i] ∧ l[i].length = 64 ∧ Bt w0 g)
    (hn : l.length = n) (ho : w0.ownsRow base 23 1 v n xs) (ha : AppendedV base 23 1 w0 v (n + 1) (xs ++ [.slice (some ⟨gb, 0, none⟩) 64 cb]) v' w') (hb : Bs w0 (some ⟨gb, 0, none⟩) b) (hb4 : b.length = 64) (hbt : Bt w0 gb) : RowsAt w' base v' (l ++ [b]) := by
  subst hn
  obtain ⟨g, c, rfl⟩ := own_some ha.1 (by omega)
  exact RowsAt.push hx (by have := ho.1; omega) (fun g hg => (own_elem ho hg).2) ha.1 (Chg.own ha.2.2 (fun g hg _ => by simp [hg])) hb hb4 hbt
theorem RowsAt.keep0 {w w' : World} {base : Nat} {v : Value} {l : List (List UInt8)} (h : RowsAt w base v l) (hc : Chg [] w w') : RowsAt w' base v l := h.keep hc (Av.nil _ _) (fun _ _ => by simp)
theorem own_unique {w : World} {base e size n : Nat} {v : Value} {xs ys : List Value} (h : w.ownsRow base e size v n xs) (k : w.ownsRow base e size v n ys) : xs = ys := by
  obtain ⟨h1, h2⟩ := h
  obtain ⟨k1, k2⟩ := k
  rcases h2 with ⟨rfl, h0⟩ | ⟨g, cap, cur, rfl, hb, hg, hc, hm, hz, ht⟩
  · subst h0
    rw [Nat.zero_mul, List.length_eq_zero_iff] at h1 k1
    rw [h1, k1]
  · rcases k2 with ⟨e, _⟩ | ⟨g', cap', cur', e, hb', hg', hc', hm', hz', ht'⟩
    · cases e
    · cases e
      rw [hg] at hg'
      cases hg'
      rw [← ht, ← ht']
/-- none of the rows' bytes lie in the block nb. -/
def Away (w : World) (base : Nat) (v : Value) (n : Nat) (nb : Option Nat) : Prop := ∀ xs, w.ownsRow base 23 1 v n xs → ∀ x ∈ xs, ∀ g c, x = .slice (some ⟨g, 0, none⟩) 64 c → some g ≠ nb
theorem Away.nil (w : World) (base : Nat) (nb : Option Nat) : Away w base (.slice none 0 0) 0 nb := by
  intro xs h x hx
  have := h.1
  rw [Nat.zero_mul, List.length_eq_zero_iff] at this
  subst this
  cases hx
theorem Away.keep {w w' : World} {T : List Nat} {base : Nat} {v : Value} {l : List (List UInt8)} {nb : Option Nat} (h : Away w base v l.length nb) (hr : RowsAt w base v l) (hc : Chg T w w') (hT : Av w T [23]) : Away w' base v l.length nb := by
  intro ys ho
  obtain ⟨xs, hx, -⟩ := hr
  have := own_unique (ownsRow_av hx hc hT) ho
  subst this
  exact h _ hx
theorem Away.app {w0 w' : World} {base gb cb n : Nat} {v v' : Value} {nb : Option Nat} {xs : List Value} (h : Away w0 base v n nb) (ho : w0.ownsRow base 23 1 v n xs) (ha : w'.ownsRow base 23 1 v' (n + 1) (xs ++ [.slice (some ⟨gb, 0, none⟩) 64 cb])) (hb : some gb ≠ nb) : Away w' base v' (n + 1) nb := by
  intro ys hy x hx
  have := own_unique ha hy
  subst this
  rw [List.mem_append, List.mem_singleton] at hx
  rcases hx with hx | rfl
  · exact h _ ho x hx
  · intro g c e
    cases e
    exact hb
theorem RowsAt.base {w : World} {b b' : Nat} {v : Value} {l : List (List UInt8)} (h : RowsAt w b v l) (hb : b' ≤ b) : RowsAt w b' v l := by
  obtain ⟨xs, h1, h2⟩ := h
  exact ⟨xs, own_base h1 hb, h2⟩
theorem Away.base {w : World} {b b' : Nat} {v : Value} {l : List (List UInt8)} {nb : Option Nat} (h : Away w b v l.length nb) (hr : RowsAt w b v l) (hb : b' ≤ b) : Away w b' v l.length nb := by
  intro ys ho
  obtain ⟨xs, hx, -⟩ := hr
  have := own_unique (own_base hx hb) ho
  subst this
  exact h _ hx
/-- bytes are put behind an own row in one block; the rows lie in others. -/
theorem rows_grow {w w' : World} {base z n g : Nat} {v v7 : Value} {l : List (List UInt8)} {bs : List Value} (h : RowsAt w base v l) (hA : Away w base v l.length v7.ownBlock) (ho : w.ownsRow z 5 1 v7 n bs) (hg : w.grownBy w' v7.ownBlock) (hi : v7.ownBlock = some g ∨ g = w.heap.size) :
    RowsAt w' base v l ∧ Away w' base v l.length (some g) := by
  obtain ⟨xs, hx, he⟩ := h
  have hc : Chg v7.ownBlock.toList w w' := Chg.own hg (fun g hg _ => by simp [hg])
  have hT : Av w v7.ownBlock.toList [23] := by
    intro x hx cs t fr hh ht
    have hx' : v7.ownBlock = some x := by simpa using hx
    obtain ⟨-, cur, h5⟩ := own_elem ho hx'
    rw [hh] at h5
    cases h5
    simp at ht
  have hx' := ownsRow_av hx hc hT
  have hmem : ∀ i (hi : i < l.length), ∀ g c, xs[i]? = some (.slice (some ⟨g, 0, none⟩) 64 c) → g ∉ v7.ownBlock.toList := by
    intro i hi g c hxi hm
    have hm' : v7.ownBlock = some g := by simpa using hm
    exact hA _ hx _ (List.mem_of_getElem? hxi) g c rfl hm'.symm
  refine ⟨⟨xs, hx', fun i hil => ?_⟩, fun ys hy x hxm g' c' e => ?_⟩
  · obtain ⟨g1, c1, h1, h2, h3, h4⟩ := he i hil
    have := hmem i hil g1 c1 h1
    exact ⟨g1, c1, h1, h2.chgT hc this, h3, h4.keep hc this⟩
  · have := own_unique hx' hy
    subst this
    subst e
    obtain ⟨i, hil, hxi⟩ := List.mem_iff_getElem?.1 hxm |>.imp fun i hi => (⟨by
      have h1 := hx.1
      rw [Nat.mul_one] at h1
      rw [← h1]
      exact (List.getElem?_eq_some_iff.1 hi).1, hi⟩ : i < l.length ∧ xs[i]? = _)
    obtain ⟨g1, c1, h1, -, -, cs, h4⟩ := he i hil
    rw [h1] at hxi
    cases hxi
    rcases hi with hi | rfl
    · rw [← hi]
      exact fun e => hmem i hil _ _ h1 (by simp [e.symm])
    · have := heap_lt h4
      intro e
      cases e
      omega
/-- bytes are put behind an own row. -/
theorem wpList_append_u8 {ops : Array Oper} {rest : List Oper} {o : Oper} {a : Act} {w : World} {Q : Exit → Act → World → Prop} (hgd : o.guard = none) (s x : Operand)
    (ho : o.op = .call { callee := .builtin .append, args := #[s, x], argTypes := #[23, 23] }) (base : Nat) (v : Value) (n : Nat) (xs : List UInt8) (hs : a.eval s = v) (hown : w.ownsRow base 5 1 v n (Lib.byteCells xs)) (b c m : Nat) (r : List UInt8) (hm : r.length = m) (hm0 : 0 < m)
    (hx : a.eval x = .slice (some ⟨b, 0, none⟩) m c) {C : Array Value} {fr : Nat × Nat} (hC : w.heap[b]? = some (.cells C 5 fr)) (hCr : C.toList = Lib.byteCells r) (hn : n + m ≤ 1000000) (hbase : base ≤ w.heap.size)
    (h : ∀ g cap w', w'.ownsRow base 5 1 (.slice (some ⟨g, 0, none⟩) (n + m) cap) (n + m) (Lib.byteCells (xs ++ r)) → w.grownBy w' v.ownBlock → (v.ownBlock = some g ∨ g = w.heap.size) → wpList Tryz.prog ops Q rest (a.put o.dst (.slice (some ⟨g, 0, none⟩) (n + m) cap)) w') : wpList Tryz.prog ops Q (o :: rest) a w := by
  obtain ⟨i, hi0, hz, hz1, hz2⟩ := info_parts inf5c
  refine wpList_append_lies w hgd s x 23 ho base 5 i _ 1 1 ty23 hi0 hz hz1 hz2 rfl (by decide) v n _ hs hown ⟨b, 0, none⟩ m c (Lib.byteCells r) hx (by rw [byteCells_length, hm, Nat.mul_one]) ?_ ?_ hm0 (by unfold maxLen; omega) (by omega) hbase _ rfl ?_
  · rw [← hCr]; exact World.news_of_block hC
  · intro u hu
    simp only [Lib.byteCells, List.mem_map] at hu
    obtain ⟨x, _, rfl⟩ := hu
    rfl
  · intro g cap w' h2 h3 h4 _
    exact h g cap w' (by rw [byteCells_app]; exact h2) h3 h4
set_option maxRecDepth 100000 in
set_option maxHeartbeats 4000000 in
theorem bencode_one (w : World) {lo e num k : Nat} {v : Value} {l : List (Int × List UInt8)} (h : TxOne w lo v k l) (hn0 : 1 ≤ num) (hn1 : num ≤ 1099511627776) (hk0 : 1 ≤ k) (hk1 : k ≤ 1099511627776) (he : e < 4294967296) (hl0 : 0 < l.length) (hl : l.length ≤ 16) (hr : Rise l) (hk : ∀ x ∈ l, 0 ≤ x.1 ∧ x.1 < 258) :
    Calls Tryz.prog 237 #[.agg #[.int .i64 num, v], .int .i64 e] w fun r w' => ∃ v', r = .returned (.tuple #[v', .int .i64 0]) ∧ Chg [] w w' ∧ RowsAt w' w.heap.size v' (batL e num k l) := by
  have k0 : Chg [] w (w.alloc (.cells #[.int .i64 num, v] 167)) := Chg.alloc w _
  have K0 := heap_new w (.cells #[.int .i64 num, v] 167)
  have h1 := h.keep k0
  obtain ⟨g, c, pb, cb, rfl, hc1, -, -, c0, c1, hcb, hp⟩ := h1.open_
  have b0 : (w.alloc (.cells #[.int .i64 num, .slice (some ⟨g, 0, none⟩) 1 c] 167)).cell? ⟨w.heap.size, 0, none⟩ = some (.int .i64 num) := cell_is K0 0 rfl
  have b1 : (w.alloc (.cells #[.int .i64 num, .slice (some ⟨g, 0, none⟩) 1 c] 167)).cell? ⟨w.heap.size, 1, none⟩ = some (.slice (some ⟨g, 0, none⟩) 1 c) := cell_is K0 1 rfl
  have e0 : decide ((e : Int) < 0) = false := decide_eq_false (by omega)
  have e1 : decide (4294967295 < (e : Int)) = false := decide_eq_false (by omega)
  have HO := Lib.hid (bcheck_one _ h1 (num := num) (by omega) (by omega) (by omega) (by omega) hl0 hl hr hk)
  have HP := Lib.hid hp
  have HK := Lib.hid hk
  have HL := Lib.hid (And.intro hl0 hl)
  have HE := Lib.hid he
  have HN := Lib.hid hn1
  have HC := Lib.hid hk1
  have H64 := Lib.hid (show k < 18446744073709551616 by omega)
  have ku : IntKind.u64.wrap (k : Int) = k := by rw [IntKind.wrap_u64]; omega
  have hz0 : w.heap.size ≤ (w.alloc (.cells #[.int .i64 num, .slice (some ⟨g, 0, none⟩) 1 c] 167)).heap.size := k0.size
  clear h h1 hp hr hk hl0 hl he hn0 hn1 hk0 hk1
  go_enter Tryz.func237, Tryz.ntmps237
  go_wp2_with fail
  generalize w.alloc (.cells #[.int .i64 num, .slice (some ⟨g, 0, none⟩) 1 c] 167) = w1 at *
  generalize hz : w.heap.size = z at *
  refine HO.out.mono ?_
  rintro e w2 ⟨rfl, k2⟩
  have b02 := k2.cell b0 (by simp)
  have b12 := k2.cell b1 (by simp)
  have c02 := k2.cell c0 (by simp)
  have c12 := k2.cell c1 (by simp)
  have k02 := k0.then k2
  have HP2 := Lib.hid (HP.out.keep0 k2)
  have hz2 : z ≤ w2.heap.size := hz ▸ k02.size
  clear HO HP b0 b1 c0 c1 k0 k2 K0
  go_upto_region 4 with fail
  have kD0 : Chg [] w2 w2.drew := (Chg.refl [] w2).drew
  have b12d : w2.drew.cell? ⟨z, 1, none⟩ = some (.slice (some ⟨g, 0, none⟩) 1 c) := b12
  have hS : ∀ wx, Chg [] w2 wx → wx.cell? ⟨z, 1, none⟩ = some (.slice (some ⟨g, 0, none⟩) 1 c) := fun wx kx => kx.cell b12 (by simp)
  go_cut [7] from 8 (fun v wx => Chg [] w2 wx ∧ wx.ownsRow w2.heap.size 5 1 v 9 (Lib.byteCells (leB k 8 ++ [1])))
  case first =>
    go_region_held3 (fun wx => wx.cell? ⟨z, 1, none⟩ = some (.slice (some ⟨g, 0, none⟩) 1 c))
      (first | (with_reducible exact hS _ kD0) | (with_reducible exact hS _ kB1) | (with_reducible exact hS _ (kD0.then_alloc _)) | (with_reducible exact hS _ (kB1.then_alloc _)) | (with_reducible exact hS _ (Chg.alloc w2 _)) | (with_reducible exact hS _ (Chg.alloc w2 _).drew) | (with_reducible exact hS _ kF))
      (first
        | (go_at_call 169; refine (put64_own _ k H64.out (base := w2.heap.size) (by first | exact kD0.size | exact (kD0.then_alloc _).size | exact ((Chg.alloc (S := []) w2 _).drew).size)).mono ?_; rintro e wB ⟨gB, rfl, kB, oB⟩; have kB1 : Chg [] w2 wB := (by first | with_reducible exact kD0.then kB | with_reducible exact ((Chg.alloc w2 _).drew).then kB | with_reducible exact (kD0.then_alloc _).then kB))
        | (refine step_append_u8 rfl (.tmp 38) (.tmp 43) rfl w2.heap.size _ 8 _ rfl (ownsRow_chg oB (Chg.alloc (S := []) wB _)) wB.heap.size 1 1 rfl (cell_is (heap_new wB _) 0 rfl) (by decide) (kB1.then_alloc _).size ?_; intro g5 cp5 w5 o5 k5; have kF : Chg [] w2 w5 := Chg.of_below (((kB1.then_alloc _).below (Nat.le_refl _) (by simp)).trans k5))
        | (refine step_append_u8 rfl (.tmp 38) (.tmp 43) rfl w2.heap.size _ 8 _ rfl oB w2.heap.size 1 1 rfl (kB.cell (cell_is (heap_new w2 _) 0 rfl) (by simp)) (by decide) kB1.size ?_; intro g5 cp5 w5 o5 k5; have kF : Chg [] w2 w5 := Chg.of_below ((kB1.below (Nat.le_refl _) (by simp)).trans k5)))
    all_goals
      go_wp2_with fail
      go_meet
      exact ⟨kF, o5⟩
  case rest =>
    obtain ⟨kw, oz⟩ := hcut
    obtain ⟨p7, c7, rfl, -⟩ := own_form oz
    have b0w := kw.cell b02 (by simp)
    have b1w := kw.cell b12 (by simp)
    have c0w := kw.cell c02 (by simp)
    have c1w := kw.cell c12 (by simp)
    have HPw := Lib.hid (HP2.out.keep0 kw)
    have HOz := Lib.hid oz
    have hzw : w2.heap.size ≤ wc.heap.size := kw.size
    clear oz hS kD0 b12d
    go_wp2_with fail
    go_loopw [4, 7, 8, 10, 12, 13, 14, 15, 49] (fun v4 v7 v8 _ _ _ _ _ i wr => (i = .int .i64 0 ∧ wc = wr ∧ v4 = .slice none 0 0 ∧ v7 = .slice p7 9 c7 ∧ v8 = .int .i64 k) ∨ (i = .int .i64 1 ∧ Chg [] w2 wr ∧ RowsAt wr w2.heap.size v4 (datL e num l) ∧ Away wr w2.heap.size v4 (datL e num l).length v7.ownBlock ∧ wr.ownsRow w2.heap.size 5 1 v7 11 (Lib.byteCells (leB k 8 ++ [1, 0, 0])))) (fun _ _ _ _ _ _ _ _ i _ => 1 - (intOf i).toNat)
    case atStart => exact Or.inl ⟨rfl, rfl, rfl, rfl, rfl⟩
    case round =>
      rcases hrel with ⟨rfl, rfl, rfl, rfl, rfl⟩ | ⟨rfl, kr, hv4, hva, hv7⟩
      · have ka : Chg [] wc (wc.alloc (.cells #[.int .i64 k, .slice pb l.length cb] 171)) := Chg.alloc wc _
        have A0 := heap_new wc (.cells #[.int .i64 k, .slice pb l.length cb] 171)
        go_wp2_with fail
        have a0 : (wc.alloc (.cells #[.int .i64 k, .slice pb l.length cb] 171)).cell? ⟨wc.heap.size, 0, none⟩ = some (.int .i64 k) := cell_is A0 0 rfl
        have b0a := ka.cell b0w (by simp)
        have HPa := Lib.hid (HPw.out.keep0 ka)
        have HOa := Lib.hid (ownsRow_chg HOz.out ka)
        have hza : w2.heap.size ≤ (wc.alloc (.cells #[.int .i64 k, .slice pb l.length cb] 171)).heap.size := Nat.le_trans hzw ka.size
        have kwa := kw.then ka
        generalize wc.alloc (.cells #[.int .i64 k, .slice pb l.length cb] 171) = w4 at *
        generalize wc.heap.size = z4 at *
        clear A0
        go_loopw [4, 12, 13, 14, 56] (fun v _ _ _ i wy => ∃ j : Nat, j ≤ l.length ∧ i = .int .i64 j ∧ Chg [] w4 wy ∧ RowsAt wy w4.heap.size v (datL e num (l.take j)) ∧ Away wy w4.heap.size v (datL e num (l.take j)).length (Value.slice p7 9 c7).ownBlock) (fun _ _ _ _ i _ => l.length - (intOf i).toNat)
        case atStart => exact ⟨0, by omega, rfl, Chg.refl _ _, RowsAt.nil _ _, Away.nil _ _ _⟩
        case round =>
          obtain ⟨j, hj, rfl, ky, hrow, haw⟩ := hrel
          by_cases hlt : j < l.length
          · obtain ⟨gp, cap, gd, cd, hpv, hcap, d0, d1, hbd, h40, hbt⟩ := (HPa.out.keep0 ky).get j hlt
            injection hpv with e1 e2 e3
            subst e1 e3
            obtain ⟨hx0, hx1⟩ := HK.out _ (List.getElem_mem hlt)
            have HTk := Lib.hid (show datL e num (l.take (j + 1)) = datL e num (l.take j) ++ [encF 1 e num (l[j]).1.toNat (l[j]).2] by unfold datL; rw [List.take_succ_eq_append_getElem hlt, List.map_append]; rfl)
            have hxe : (l[j]).1 = (((l[j]).1.toNat : Nat) : Int) := by omega
            have hx2 : (l[j]).1.toNat ≤ 1048576 := by omega
            have H40 := Lib.hid h40
            have Hbd := Lib.hid hbd
            have HR := Lib.hid hrow
            have HAw := Lib.hid haw
            have HO9 := Lib.hid (ownsRow_chg HOa.out ky)
            have hl16 : l.length ≤ 16 := HL.out.2
            rw [hxe] at d0
            have hdl : (datL e num (l.take j)).length = j := by rw [datL_length, List.length_take]; omega
            clear hbd h40 hrow hx0 hx1 hxe hbt haw
            generalize (l[j]).1.toNat = x at *
            generalize (l[j]).2 = q at *
            have b0y := ky.cell b0a (by simp)
            have kl : Chg [] wr (wr.alloc (.cells #[.int .i64 x, .slice (some ⟨gd, 0, none⟩) 40 cd] 138)) := Chg.alloc wr _
            have L0 := heap_new wr (.cells #[.int .i64 x, .slice (some ⟨gd, 0, none⟩) 40 cd] 138)
            have l0 : (wr.alloc (.cells #[.int .i64 x, .slice (some ⟨gd, 0, none⟩) 40 cd] 138)).cell? ⟨wr.heap.size, 0, none⟩ = some (.int .i64 x) := cell_is L0 0 rfl
            have l1 : (wr.alloc (.cells #[.int .i64 x, .slice (some ⟨gd, 0, none⟩) 40 cd] 138)).cell? ⟨wr.heap.size, 1, none⟩ = some (.slice (some ⟨gd, 0, none⟩) 40 cd) := cell_is L0 1 rfl
            have b0l := kl.cell b0y (by simp)
            go_wp2_with fail
            generalize wr.alloc (.cells #[.int .i64 x, .slice (some ⟨gd, 0, none⟩) 40 cd] 138) = wl at *
            generalize wr.heap.size = zl at *
            clear L0
            go_wp2_with fail
            refine (fencode_any wl (kind := 1) (by decide) (by decide) HE.out HN.out hx2 H40.out (by decide) (Hbd.out.chg kl)).mono ?_
            rintro r w5 ⟨g5, c5, rfl, k5, hg5, b5, t5⟩
            have k4y : Chg [] w4 w5 := (ky.then kl).then k5
            have hz5 : w4.heap.size ≤ w5.heap.size := k4y.size
            obtain ⟨xs, ho5, hx5⟩ := HR.out.keep0 (kl.then k5)
            rw [hdl] at ho5
            have hA5 := HAw.out.keep HR.out (kl.then k5) (Av.nil _ _)
            rw [hdl] at hA5
            have HA5 := Lib.hid hA5
            have HG5 := Lib.hid (show some g5 ≠ (Value.slice p7 9 c7).ownBlock from fun e5 => by
              obtain ⟨-, cs5, h5⟩ := own_elem (ownsRow_chg HO9.out kl) e5.symm
              have := heap_lt h5
              omega)
            have HO5 := Lib.hid ho5
            have HX5 := Lib.hid hx5
            have B5 := Lib.hid b5
            have T5 := Lib.hid t5
            have E5 := Lib.hid (encF_length 1 e num x q (by rw [H40.out]; decide))
            clear ho5 hx5 b5 t5 HR hA5 HAw HO9
            go_wp2_with (at_builtin; refine wpList_append_lit rfl (.tmp 72) (.tmp 74) 80 23 rfl ty132 inf23 rfl (by decide) w4.heap.size w5 [.slice (some ⟨g5, 0, none⟩) 64 c5] 1 rfl _ j xs rfl HO5.out (by have := HL.out.2; omega) (by decide) hz5 (k := 0) rfl (by simp [Value.oneCell']) rfl 1 rfl ?_; intro v' w6 hap)
            have hfin := RowsAt.app HX5.out hdl HO5.out hap B5.out E5.out T5.out
            have hfa := Away.app HA5.out HO5.out hap.1 HG5.out
            have hdl2 : (datL e num (l.take (j + 1))).length = j + 1 := by rw [HTk.out, List.length_append, hdl]; rfl
            rw [← HTk.out] at hfin
            rw [← hdl2] at hfa
            have k6 : Chg [] w4 w6 := Chg.of_below (k4y.below0.trans hap.2.1)
            go_roundw
            case rel => exact ⟨j + 1, by omega, by go_num, k6, hfin, hfa⟩
            case measure => simp [intOf]; omega
          · obtain rfl : j = l.length := by omega
            rw [List.take_length] at hrow haw
            have HRy := Lib.hid hrow
            have HAy := Lib.hid haw
            have a0y := ky.cell a0 (by simp)
            have hzy := Nat.le_trans hza ky.size
            have kwy := kwa.then ky
            have HOy := Lib.hid (ownsRow_chg HOa.out ky)
            clear hrow haw
            have kt : Chg [] wr (wr.alloc (.cells #[.int .u8 0, .int .u8 0] 5)) := Chg.alloc wr _
            go_wp2_with (at_builtin; refine wpList_append_u8 rfl (.tmp 83) (.tmp 89) rfl w2.heap.size _ 9 _ rfl (ownsRow_chg HOy.out kt) wr.heap.size 2 2 [0, 0] rfl (by decide) rfl (heap_new wr _) rfl (by decide) (Nat.le_trans hzy kt.size) ?_; intro g6 c6 w6 o6 k6 i6)
            obtain ⟨hr6, ha6⟩ := rows_grow (HRy.out.keep0 kt) (HAy.out.keep HRy.out kt (Av.nil _ _)) (ownsRow_chg HOy.out kt) k6 i6
            have kf : Chg [] w2 w6 := Chg.of_below ((kwy.then kt).below0.trans (below_grown (ownsRow_chg HOy.out kt) k6 (Nat.le_trans hzy kt.size)))
            go_roundw
            case rel => exact Or.inr ⟨rfl, kf, hr6.base hza, ha6.base hr6 hza, o6⟩
            case measure => decide
      · obtain ⟨p8, c8, rfl, -⟩ := own_form hv7
        obtain ⟨xs4, ho4, hx4⟩ := hv4
        obtain ⟨p4, c4, rfl, hc4⟩ := own_form ho4
        have HR := Lib.hid (show RowsAt wr w2.heap.size (.slice p4 (datL e num l).length c4) (datL e num l) from ⟨xs4, ho4, hx4⟩)
        have HAw := Lib.hid hva
        have HO7 := Lib.hid hv7
        have b0r := kr.cell b02 (by simp)
        have b1r := kr.cell b12 (by simp)
        have c0r := kr.cell c02 (by simp)
        have c1r := kr.cell c12 (by simp)
        have hzr := kr.size
        have hu8 : IntKind.u8.wrap (l.length : Int) = l.length := by have := HL.out.2; rw [IntKind.wrap_u8]; omega
        clear hva hv7 ho4 hx4
        go_wp2_with fail
        go_loopw [7, 17, 95] (fun v7 _ i wx => (i = .int .i64 0 ∧ wr = wx ∧ v7 = .slice p8 11 c8) ∨ (i = .int .i64 1 ∧ Chg [] w2 wx ∧ RowsAt wx w2.heap.size (.slice p4 (datL e num l).length c4) (datL e num l) ∧ wx.ownsRow w2.heap.size 5 1 v7 12 (Lib.byteCells (bodL k l.length)))) (fun _ _ i _ => 1 - (intOf i).toNat)
        case atStart => exact Or.inl ⟨rfl, rfl, rfl⟩
        case round =>
          rename World => wz
          rcases hrel with ⟨rfl, rfl, rfl⟩ | ⟨rfl, kz, hv4, hv7⟩
          · have ka : Chg [] wr (wr.alloc (.cells #[.int .i64 k, .slice pb l.length cb] 171)) := Chg.alloc wr _
            have A0 := heap_new wr (.cells #[.int .i64 k, .slice pb l.length cb] 171)
            have L0 := (two_new wr (.cells #[.int .i64 k, .slice pb l.length cb] 171) (.cells #[.int .u8 l.length] 5)).2
            have kt := ka.then_alloc (.cells #[.int .u8 l.length] 5)
            have HLn := Lib.hid (show (#[Value.int .u8 l.length]).toList = Lib.byteCells [UInt8.ofNat l.length] by
              have e1 : (UInt8.ofNat l.length).toNat = l.length := by have := HL.out.2; simp; omega
              simp only [Lib.byteCells, List.map_cons, List.map_nil, e1])
            have hBd := Lib.hid (show leB k 8 ++ [1, 0, 0] ++ [UInt8.ofNat l.length] = bodL k l.length by simp [bodL])
            go_wp2_with (at_builtin; refine wpList_append_u8 rfl (.tmp 99) (.tmp 104) rfl w2.heap.size _ 11 _ rfl (ownsRow_chg HO7.out kt) (wr.heap.size + 1) 1 1 [UInt8.ofNat l.length] rfl (by decide) rfl L0 HLn.out (by decide) (Nat.le_trans hzr kt.size) ?_; intro g6 c6 w6 o6 k6 i6)
            obtain ⟨hr6, ha6⟩ := rows_grow (HR.out.keep0 kt) (HAw.out.keep HR.out kt (Av.nil _ _)) (ownsRow_chg HO7.out kt) k6 i6
            rw [hBd.out] at o6
            have kf : Chg [] w2 w6 := Chg.of_below ((kr.then kt).below0.trans (below_grown (ownsRow_chg HO7.out kt) k6 (Nat.le_trans hzr kt.size)))
            go_roundw
            case rel => exact Or.inr ⟨rfl, kf, hr6, o6⟩
            case measure => decide
          · obtain ⟨p9, c9, rfl, -⟩ := own_form hv7
            have b0z := kz.cell b02 (by simp)
            have HRz := Lib.hid hv4
            have H9 := Lib.hid (Bs.own hv7)
            have hbl : (bodL k l.length).length = 12 := by simp [bodL, leB_length]
            have HLz := Lib.hid hbl
            have hdl : (datL e num l).length = l.length := datL_length _ _ _
            clear hv7 hbl
            go_wp2_with fail
            refine (fencode_any wz (kind := 2) (lba := l.length) (by decide) (by decide) HE.out HN.out (by have := HL.out.2; omega) HLz.out (by decide) H9.out).mono ?_
            rintro r w5 ⟨g5, c5, rfl, k5, hg5, b5, t5⟩
            have kz5 := kz.then k5
            obtain ⟨xs, ho5, hx5⟩ := HRz.out.keep0 k5
            rw [hdl] at ho5
            have HO5 := Lib.hid ho5
            have HX5 := Lib.hid hx5
            have B5 := Lib.hid b5
            have T5 := Lib.hid t5
            have E5 := Lib.hid (encF_length 2 e num l.length (bodL k l.length) (by rw [HLz.out]; decide))
            clear ho5 hx5 b5 t5 hv4
            go_wp2_with (at_builtin; refine wpList_append_lit rfl (.tmp 118) (.tmp 120) 80 23 rfl ty132 inf23 rfl (by decide) w2.heap.size w5 [.slice (some ⟨g5, 0, none⟩) 64 c5] 1 rfl _ l.length xs rfl HO5.out (by have := HL.out.2; omega) (by decide) kz5.size (k := 0) rfl (by simp [Value.oneCell']) rfl 1 rfl ?_; intro v' w6 hap)
            have hfin := RowsAt.app HX5.out hdl HO5.out hap B5.out E5.out T5.out
            have k6 : Chg [] w w6 := k02.then (Chg.of_below (kz5.below0.trans hap.2.1))
            have HF := Lib.hid (show RowsAt w6 z v' (batL e num k l) from hfin.base hz2)
            clear hfin hap
            go_wp2_with fail
            go_ret2
            exact ⟨_, rfl, k6, by rw [hz]; exact HF.out⟩
end Go.Proofs.YtgagcbgbjkjghaaGreatDoor
