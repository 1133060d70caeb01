/- Lemmas and walks. -/
import Derived.WalkKit
import Derived.WalkSpells
import Derived.Lib.BufferRead
import Derived.Lib.Hide
import Derived.Deep.Draws
import Derived.MapKept
import Derived.WideMake
import Derived.Lib.AppendZerosOnto
import Derived.Laws.CopyOwn
import Derived.Test.YtelakcjbknbehaaGreatProg
import Derived.WalkLawsBesides
import Derived.Laws.FloatArith
import Derived.Laws.Externs
import Derived.Laws.BitsAllLaws
import Derived.Test.YtelakcjbknbehaaGreatEa
namespace Go.Proofs.YtelakcjbknbehaaGreat
open Go.RowKit Go.Lib

structure Chg (S : List Nat) (w w' : World) : Prop where
 os : w'.os = w.os
 tape : w'.tape = w.tape
 output : w'.output = w.output
 size : w.heap.size ≤ w'.heap.size
 block : ∀ k, k < w.heap.size → k ∉ S → w'.heap[k]? = w.heap[k]?

theorem Chg.refl (S : List Nat) (w : World) : Chg S w w := ⟨rfl, rfl, rfl, Nat.le_refl _, fun _ _ _ => rfl⟩
theorem Chg.trans {S T : List Nat} {a b c : World} (h : Chg S a b) (k : Chg T b c) (hT : ∀ x ∈ T, x < a.heap.size → x ∈ S) : Chg S a c :=
 ⟨k.os.trans h.os, k.tape.trans h.tape, k.output.trans h.output, Nat.le_trans h.size k.size,
  fun i hi hs => (k.block i (Nat.lt_of_lt_of_le hi h.size) (fun ht => hs (hT i ht hi))).trans (h.block i hi hs)⟩
theorem Chg.mono {S T : List Nat} {a b : World} (h : Chg S a b) (hT : ∀ x ∈ S, x < a.heap.size → x ∈ T) : Chg T a b :=
 ⟨h.os, h.tape, h.output, h.size, fun i hi ht => h.block i hi (fun hs => ht (hT i hs hi))⟩
theorem Chg.then {S : List Nat} {a b c : World} (h : Chg S a b) (k : Chg S b c) : Chg S a c := h.trans k (fun _ hx _ => hx)
theorem Chg.of_below {S : List Nat} {w w' : World} (h : Below w.heap.size w w') : Chg S w w' := ⟨h.os, h.tape, h.output, h.size, fun k hk _ => h.block k hk⟩
theorem Chg.below {S : List Nat} {w w' : World} (h : Chg S w w') {B : Nat} (hB : B ≤ w.heap.size) (hS : ∀ x ∈ S, B ≤ x) : Below B w w' :=
 ⟨h.os, h.tape, h.output, h.size, fun k hk => h.block k (Nat.lt_of_lt_of_le hk hB) (fun hs => by have := hS k hs; omega)⟩
theorem Chg.below0 {w w' : World} (h : Chg [] w w') : Below w.heap.size w w' := h.below (Nat.le_refl _) (fun x hx => by cases hx)
theorem Chg.of_grown {w w' : World} {g : Nat} (h : w.grownBy w' (some g)) : Chg [g] w w' :=
 ⟨h.os, h.tape, h.output, h.size, fun k hk hs => h.block k hk (fun e => hs (by rw [← Option.some.inj e]; simp))⟩
theorem Chg.of_grown0 {w w' : World} (h : w.grownBy w' none) : Chg [] w w' := ⟨h.os, h.tape, h.output, h.size, fun k hk _ => h.block k hk (by simp)⟩
theorem Chg.heap {S : List Nat} {w w' : World} (h : Chg S w w') {g : Nat} {o : Obj} (hg : w.heap[g]? = some o) (hs : g ∉ S) : w'.heap[g]? = some o :=
 (h.block g (Array.getElem?_eq_some_iff.1 hg).1 hs).trans hg
theorem Chg.cell {S : List Nat} {w w' : World} (h : Chg S w w') {p : Addr} {v : Value} (hc : w.cell? p = some v) (hs : p.block ∉ S) : w'.cell? p = some v := by
 have hlt := World.block_lt_of_cell? _ _ hc
 have hb := h.block p.block hlt hs
 unfold World.cell? at hc ⊢
 rw [hb]; exact hc
theorem Chg.alloc {S : List Nat} (w : World) (o : Obj) : Chg S w (w.alloc o) :=
 Chg.of_below ((Below.refl _ _).alloc (Nat.le_refl _) o)
theorem Chg.set (w : World) (g i : Nat) (v : Value) : Chg [g] w (w.setCell ⟨g, i, none⟩ v) :=
 ⟨rfl, rfl, rfl, by simp [World.setCell], fun k _ hs => Below.heap_setCell _ _ _ _ (by intro e; exact hs (by rw [e]; simp))⟩
theorem Chg.drewN {S : List Nat} {w w' : World} (h : Chg S w w') (n : Nat) : Chg S w (w'.drewN n) := ⟨h.os, h.tape, h.output, h.size, h.block⟩
theorem Chg.drew {S : List Nat} {w w' : World} (h : Chg S w w') : Chg S w w'.drew := ⟨h.os, h.tape, h.output, h.size, h.block⟩
theorem Chg.then_set {S : List Nat} {a b : World} (h : Chg S a b) {g : Nat} (hg : g < a.heap.size → g ∈ S) (i : Nat) (v : Value) : Chg S a (b.setCell ⟨g, i, none⟩ v) :=
 h.trans (Chg.set b g i v) (fun x hx hlt => by rw [List.mem_singleton.1 hx] at hlt ⊢; exact hg hlt)
theorem Chg.then_alloc {S : List Nat} {a b : World} (h : Chg S a b) (o : Obj) : Chg S a (b.alloc o) := h.trans (Chg.alloc (S := []) b o) (fun x hx => by cases hx)
theorem heap_new (w : World) (o : Obj) : (w.alloc o).heap[w.heap.size]? = some o := by rw [show (w.alloc o).heap = w.heap.push o from rfl]; simp
theorem heap_lt {w : World} {g : Nat} {o : Obj} (h : w.heap[g]? = some o) : g < w.heap.size := (Array.getElem?_eq_some_iff.1 h).1
theorem heap_ne {w : World} {g k : Nat} {o p : Obj} (h : w.heap[g]? = some o) (h' : w.heap[k]? = some p) (hop : o ≠ p) : g ≠ k := by
 rintro rfl; rw [h] at h'; exact hop (Option.some.inj h')
theorem cell_is {w : World} {g : Nat} {cs : Array Value} {t : TypeId} {fr : Nat × Nat} (h : w.heap[g]? = some (.cells cs t fr)) (i : Nat) {v : Value} (hv : cs[i]? = some v) : w.cell? ⟨g, i, none⟩ = some v := by
 rw [cell_of_row _ _ _ _ _ _ h]; exact hv
theorem unfrozen {w : World} {g : Nat} {cs : Array Value} {t : TypeId} (h : w.heap[g]? = some (.cells cs t (0, 0))) (i : Nat) : w.frozen? ⟨g, i, none⟩ = false := frozen_of_row _ _ _ _ _ h
theorem heap_set {w : World} {g : Nat} {cs : Array Value} {t : TypeId} (h : w.heap[g]? = some (.cells cs t (0, 0))) (i : Nat) (v : Value) {cs' : Array Value} (hc : cs.setIfInBounds i v = cs') :
  (w.setCell ⟨g, i, none⟩ v).heap[g]? = some (.cells cs' t (0, 0)) := by
 rw [← hc]; exact heap_setCell_same w g i cs t v h
theorem heap_set_ne {w : World} {g k : Nat} {o : Obj} (h : w.heap[g]? = some o) (hk : g ≠ k) (i : Nat) (v : Value) : (w.setCell ⟨k, i, none⟩ v).heap[g]? = some o := by
 rw [heap_setCell_other _ _ _ _ hk]; exact h
def IM (es : Array MapEntry) (L : List (Int × Value)) : Prop := es.toList.map (fun e => (e.key, e.val)) = L.map (fun p => (Value.int .i64 p.1, p.2))
structure IMS (es : Array MapEntry) (clock : Nat) (L : List (Int × Value)) : Prop where
 im : IM es L
 st : MapKept.Stamped es clock
def MapAt (w : World) (r : Nat) (L : List (Int × Value)) : Prop := ∃ es clock, w.heap[r]? = some (.map es clock) ∧ IMS es clock L
def getL : List (Int × Value) → Int → Option Value
 | [], _ => none
 | p :: l, k => if k = p.1 then some p.2 else getL l k
def findL : List (Int × Value) → Int → Nat → Option (Nat × Value)
 | [], _, _ => none
 | p :: l, k, i => if k = p.1 then some (i, p.2) else findL l k (i + 1)
def putL : List (Int × Value) → Int → Value → List (Int × Value)
 | [], k, v => [(k, v)]
 | p :: l, k, v => if k = p.1 then (k, v) :: l else p :: putL l k v
theorem findL_get (L : List (Int × Value)) (k : Int) (i : Nat) : (findL L k i).map Prod.snd = getL L k := by
 induction L generalizing i with
 | nil => rfl
 | cons p l ih =>
  simp only [findL, getL]
  split
  ·rfl
  ·exact ih _
theorem getL_put (L : List (Int × Value)) (k j : Int) (v : Value) : getL (putL L k v) j = if j = k then some v else getL L j := by
 induction L with
 | nil => simp only [putL, getL]
 | cons p l ih =>
  simp only [putL]
  by_cases h : k = p.1
  ·rw [if_pos h]
   simp only [getL]
   by_cases h2 : j = k
   ·rw [if_pos h2, if_pos h2]
   ·rw [if_neg h2, if_neg h2, if_neg (by omega)]
  ·rw [if_neg h]
   simp only [getL]
   by_cases h2 : j = p.1
   ·rw [if_pos h2, if_neg (by omega), if_pos h2]
   ·rw [if_neg h2, if_neg h2, ih]
theorem putL_len (L : List (Int × Value)) (k : Int) (v : Value) : (putL L k v).length ≤ L.length + 1 := by
 induction L with
 | nil => simp [putL]
 | cons p l ih => simp only [putL]; split <;> simp only [List.length_cons] <;> omega
theorem findNow_im (q : IntKind) (k : Int) (es : List MapEntry) (L : List (Int × Value)) (h : es.map (fun e => (e.key, e.val)) = L.map (fun p => (Value.int .i64 p.1, p.2))) (i : Nat) :
  Instr.findNow (.int q) (.int .i64 k) es i = some (findL L k i) := by
 induction L generalizing es i with
 | nil =>
  cases es with
  | nil => rfl
  | cons e es => simp at h
 | cons p l ih =>
  cases es with
  | nil => simp at h
  | cons e es =>
   simp only [List.map_cons, List.cons.injEq, Prod.mk.injEq] at h
   obtain ⟨⟨h1, h2⟩, h3⟩ := h
   simp only [Instr.findNow, h1, Instr.sameNow, if_true, findL]
   by_cases hk : k = p.1
   ·rw [if_pos hk, hk]
    simp [h2]
   ·rw [if_neg hk]
    have : (k == p.1) = false := by simpa using hk
    rw [this]
    exact ih es h3 (i + 1)
theorem MapAt.keep {S : List Nat} {w w' : World} {r : Nat} {L : List (Int × Value)} (h : MapAt w r L) (hc : Chg S w w') (hr : r ∉ S) : MapAt w' r L := by
 obtain ⟨es, clock, hb, hI⟩ := h
 exact ⟨es, clock, hc.heap hb hr, hI⟩
theorem MapAt.lt {w : World} {r : Nat} {L : List (Int × Value)} (h : MapAt w r L) : r < w.heap.size := by
 obtain ⟨es, clock, hb, hI⟩ := h
 exact heap_lt hb
theorem MapAt.len {w : World} {r : Nat} {L : List (Int × Value)} (h : MapAt w r L) : ∃ es clock, w.heap[r]? = some (.map es clock) ∧ es.size = L.length := by
 obtain ⟨es, clock, hb, hI, _⟩ := h
 refine ⟨es, clock, hb, ?_⟩
 have := congrArg List.length hI
 simpa using this
section
variable {P : Program} {w : World}
theorem run_lookup_im {mty kt et : TypeId} (hm : P.underlying mty = some (.map kt et)) (hk : P.underlying kt = some (.int .i64)) {z : Value} (hz : (zeroValue et).run P w = .ok z w) {r : Nat} {L : List (Int × Value)} (hM : MapAt w r L) (k : Int) (c : Bool) :
  (Instr.lookup mty (.map (some r)) (.int .i64 k) c).run P w = .ok (if c then .tuple #[(getL L k).getD z, .bool (getL L k).isSome] else (getL L k).getD z) w := by
 obtain ⟨es, clock, hb, hI, _⟩ := hM
 have hf := findNow_im .i64 k es.toList L hI 0
 have hc : ∀ e, (Instr.checkKey e 10000 kt (.int .i64 k)).run P w = .ok () w := fun e => MapKept.run_checkKey (k := .int .i64 k) hk (by simp [MapKept.IsKey]) e 9999
 have hg := findL_get L k 0
 cases hfl : findL L k 0 with
 | none =>
  rw [hfl] at hf hg
  rw [← hg]
  cases c <;> simp [Instr.lookup, run_underlying hm, MapKept.run_getObj_map hb, hc, MapKept.run_findKey hk hf, hz, Result.andThen]
 | some x =>
  rw [hfl] at hf hg
  rw [← hg]
  cases c <;> simp [Instr.lookup, run_underlying hm, MapKept.run_getObj_map hb, hc, MapKept.run_findKey hk hf, Result.andThen]
def mapSet (w : World) (r : Nat) (o : Obj) : World := { w with heap := w.heap.setIfInBounds r o }
theorem mapSet_heap {r : Nat} {o p : Obj} (h : w.heap[r]? = some p) : (mapSet w r o).heap[r]? = some o := by
 have := heap_lt h
 simp [mapSet, this]
theorem mapSet_chg (w : World) (r : Nat) (o : Obj) : Chg [r] w (mapSet w r o) :=
 ⟨rfl, rfl, rfl, by simp [mapSet], fun k _ hs => by
  have : r ≠ k := by intro e; exact hs (by rw [e]; simp)
  simp [mapSet, this]⟩
theorem putL_none {L : List (Int × Value)} {k : Int} {i : Nat} (h : findL L k i = none) (v : Value) : putL L k v = L ++ [(k, v)] := by
 induction L generalizing i with
 | nil => rfl
 | cons p l ih =>
  simp only [findL] at h
  split at h
  ·cases h
  ·rename_i hk
   simp only [putL]; rw [if_neg hk, ih h]; rfl
theorem findL_ge {L : List (Int × Value)} {k : Int} {i : Nat} {x : Nat × Value} (h : findL L k i = some x) : i ≤ x.1 ∧ x.1 - i < L.length := by
 induction L generalizing i with
 | nil => cases h
 | cons p l ih =>
  simp only [findL] at h
  split at h
  ·injection h with h; subst h; simp
  ·have := ih h; simp only [List.length_cons]; omega
theorem putL_some {L : List (Int × Value)} {k : Int} {i : Nat} {x : Nat × Value} (h : findL L k i = some x) (v : Value) : putL L k v = L.modify (x.1 - i) (fun _ => (k, v)) ∧ ((L[x.1 - i]?).map Prod.fst) = some k := by
 induction L generalizing i with
 | nil => cases h
 | cons p l ih =>
  simp only [findL] at h
  split at h
  ·rename_i hk
   injection h with h
   subst h
   simp only [putL]
   rw [if_pos hk]
   refine ⟨?_, ?_⟩
   ·rw [Nat.sub_self]; rfl
   ·rw [Nat.sub_self]; simp [hk]
  ·rename_i hk
   have h1 := ih h
   have h2 := findL_ge h
   simp only [putL]
   rw [if_neg hk, h1.1]
   have e : x.1 - i = (x.1 - (i + 1)) + 1 := by omega
   rw [e]
   exact ⟨rfl, by simpa using h1.2⟩
theorem modify_map {α β : Type} (f : α → β) (g : α → α) (g' : β → β) (hg : ∀ a, f (g a) = g' (f a)) (l : List α) (i : Nat) : (l.modify i g).map f = (l.map f).modify i g' := by
 induction l generalizing i with
 | nil => cases i <;> rfl
 | cons a l ih =>
  cases i with
  | zero => simp [hg]
  | succ i => simp [ih]
theorem findL_none_key {L : List (Int × Value)} {k : Int} {i : Nat} (h : findL L k i = none) : k ∉ L.map Prod.fst := by
 induction L generalizing i with
 | nil => simp
 | cons p l ih =>
  simp only [findL] at h
  split at h
  ·cases h
  ·rename_i hk
   simp only [List.map_cons, List.mem_cons, not_or]
   exact ⟨hk, ih h⟩
theorem im_keys {es : Array MapEntry} {L : List (Int × Value)} (h : IM es L) {k : Int} (hk : (Value.int .i64 k) ∈ es.toList.map (·.key)) : k ∈ L.map Prod.fst := by
 have h1 : es.toList.map (·.key) = L.map (fun p => Value.int .i64 p.1) := by
  have := congrArg (List.map Prod.fst) h
  simpa [List.map_map, Function.comp_def] using this
 rw [h1] at hk
 obtain ⟨p, hp, e⟩ := List.mem_map.1 hk
 injection e with _ e
 exact List.mem_map.2 ⟨p, hp, e⟩
theorem MapAt.nodup {r : Nat} {L : List (Int × Value)} (h : MapAt w r L) : (L.map Prod.fst).Nodup := by
 obtain ⟨es, clock, hb, hI, _, _, hk⟩ := h
 have h1 : es.toList.map (·.key) = (L.map Prod.fst).map (fun x => Value.int .i64 x) := by
  have := congrArg (List.map Prod.fst) hI
  simpa [List.map_map, Function.comp_def] using this
 rw [h1] at hk
 exact (List.pairwise_map.1 hk).imp (fun h e => h (by rw [e]))
theorem run_update_im {mty kt et : TypeId} (hm : P.underlying mty = some (.map kt et)) (hk : P.underlying kt = some (.int .i64)) {r : Nat} {L : List (Int × Value)} (hM : MapAt w r L) (k : Int) (v : Value) :
  ∃ w', (Instr.mapUpdate mty (.map (some r)) (.int .i64 k) v).run P w = .ok () w' ∧ MapAt w' r (putL L k v) ∧ Chg [r] w w' ∧ w'.heap.size = w.heap.size := by
 obtain ⟨es, clock, hb, hI, hS⟩ := hM
 have hf := findNow_im .i64 k es.toList L hI 0
 have hc : (Instr.checkKey false 10000 kt (.int .i64 k)).run P w = .ok () w := MapKept.run_checkKey (k := .int .i64 k) hk (by simp [MapKept.IsKey]) false 9999
 cases hfl : findL L k 0 with
 | none =>
  rw [hfl] at hf
  refine ⟨mapSet w r (.map (es.push { key := .int .i64 k, val := v, born := clock }) (clock + 1)), ?_, ⟨_, _, mapSet_heap hb, ?_⟩, mapSet_chg _ _ _, by simp [mapSet]⟩
  ·simp [Instr.mapUpdate, run_underlying hm, MapKept.run_getObj_map hb, hc, MapKept.run_findKey hk hf, MapKept.run_setObj_map _ hb, Result.andThen, mapSet]
  ·refine ⟨?_, MapKept.stamped_push hS (fun x hx e => ?_)⟩
   ·rw [putL_none hfl]
    unfold IM at hI ⊢
    simp [hI]
   ·have h1 : (Value.int .i64 k) ∈ es.toList.map (·.key) := List.mem_map.2 ⟨x, hx, e⟩
    exact findL_none_key hfl (im_keys hI h1)
 | some x =>
  rw [hfl] at hf
  obtain ⟨i, u⟩ := x
  have hp := putL_some hfl v
  simp only [Nat.sub_zero] at hp
  have hkey : ((es[i]?).map (·.key)).getD (.int .i64 k) = .int .i64 k := by
   have h1 : (es.toList.map (fun e => (e.key, e.val)))[i]?.map Prod.fst = (es[i]?).map (·.key) := by
    rw [List.getElem?_map, Option.map_map, Array.getElem?_toList]; rfl
   rw [← h1, hI, List.getElem?_map, Option.map_map]
   have h2 := hp.2
   cases hl : L[i]? with
   | none => rfl
   | some p => rw [hl] at h2; simp at h2; simp [h2]
  have hst : (Instr.keyThatStays (.int .i64 k) (.int .i64 k)).run P w = .ok (.int .i64 k) w := by
   unfold Instr.keyThatStays
   rw [if_pos (by simp [Instr.sameBits])]
   rfl
  refine ⟨mapSet w r (.map (es.modify i fun e => { e with key := .int .i64 k, val := v }) clock), ?_, ⟨_, _, mapSet_heap hb, ?_⟩, mapSet_chg _ _ _, by simp [mapSet]⟩
  ·simp [Instr.mapUpdate, run_underlying hm, MapKept.run_getObj_map hb, hc, MapKept.run_findKey hk hf, hkey, hst, MapKept.run_setObj_map _ hb, Result.andThen, mapSet]
  ·refine ⟨?_, MapKept.stamped_modify hS i _ (fun e _ => rfl) (fun e he hi => ?_)⟩
   case refine_2 =>
    have h3 := hkey
    rw [hi] at h3
    exact h3.symm
   rw [hp.1]
   unfold IM at hI ⊢
   rw [Array.toList_modify, modify_map (fun e : MapEntry => (e.key, e.val)) _ (fun _ => (Value.int .i64 k, v)) (fun a => rfl), hI,
    modify_map (fun p : Int × Value => (Value.int .i64 p.1, p.2)) _ (fun _ => (Value.int .i64 k, v)) (fun a => rfl)]
end
theorem byteCells_length (l : List UInt8) : (Lib.byteCells l).length = l.length := by simp [Lib.byteCells]
theorem byteCells_app (l r : List UInt8) : Lib.byteCells (l ++ r) = Lib.byteCells l ++ Lib.byteCells r := by simp [Lib.byteCells]

def Bs (w : World) (a : Option Addr) (l : List UInt8) : Prop :=
 l = [] ∨ ∃ b off, a = some ⟨b, off, none⟩ ∧ b < w.heap.size ∧ ∀ j (h : j < l.length), w.cell? ⟨b, off + j, none⟩ = some (.int .u8 l[j].toNat)

theorem Bs.below {w w' : World} {a : Option Addr} {l : List UInt8} (h : Bs w a l) {B : Nat} (hb : Below B w w') (hB : w.heap.size ≤ B) : Bs w' a l := by
 rcases h with h | ⟨b, off, ha, hlt, hc⟩
 ·exact Or.inl h
 ·exact Or.inr ⟨b, off, ha, Nat.lt_of_lt_of_le hlt hb.size, fun j hj => (hb.cell (by show b < B; omega)).trans (hc j hj)⟩

theorem Bs.block {w : World} {g : Nat} {l : List UInt8} {C : Array Value} {e : TypeId} {fr : Nat × Nat} (h : w.heap[g]? = some (.cells C e fr)) (hC : C.toList.take l.length = Lib.byteCells l) : Bs w (some ⟨g, 0, none⟩) l := by
 refine Or.inr ⟨g, 0, rfl, (Array.getElem?_eq_some_iff.1 h).1, fun j hj => ?_⟩
 rw [cell_of_row _ _ _ _ _ _ h, Nat.zero_add]
 have h2 : (Lib.byteCells l)[j]? = some (.int .u8 l[j].toNat) := by simp [Lib.byteCells, hj]
 rw [← hC, List.getElem?_take, if_pos hj] at h2
 simpa using h2

theorem Bs.row {w : World} {g : Nat} {l : List UInt8} {e : TypeId} {fr : Nat × Nat} (h : w.heap[g]? = some (.cells (Lib.byteCells l).toArray e fr)) : Bs w (some ⟨g, 0, none⟩) l :=
 Bs.block h (by rw [List.take_of_length_le (by simp [Lib.byteCells])])

theorem Bs.own {w : World} {base e n : Nat} {l : List UInt8} {a : Option Addr} {m c : Nat} (h : w.ownsRow base e 1 (.slice a m c) n (Lib.byteCells l)) : Bs w a l := by
 rcases h.2 with ⟨hv, h0⟩ | ⟨g, cap, cur, hv, _, hg, _, _, _, htk⟩
 ·left; have := h.1; simp [Lib.byteCells, h0] at this; exact this
 ·cases hv
  have hn : l.length = n := by have := h.1; simpa [Lib.byteCells] using this
  exact Bs.block hg (by rw [hn]; simpa using htk)

theorem grownBy_trans {a b c : World} {row : Option Nat} (h : a.grownBy b row) (k : b.grownBy c row) : a.grownBy c row :=
 ⟨k.os.trans h.os, k.tape.trans h.tape, k.output.trans h.output, Nat.le_trans h.size k.size, fun i hi hn => (k.block i (Nat.lt_of_lt_of_le hi h.size) hn).trans (h.block i hi hn)⟩

theorem grownBy_drewN {a b : World} {row : Option Nat} (h : a.grownBy b row) (k : Nat) : a.grownBy (b.drewN k) row := ⟨h.os, h.tape, h.output, h.size, h.block⟩

theorem below_grown {w w' : World} {base : Nat} {e : TypeId} {size : Nat} {v : Value} {n : Nat} {xs : List Value} (h : w.ownsRow base e size v n xs) (hg : w.grownBy w' v.ownBlock) (hb : base ≤ w.heap.size) : Below base w w' :=
 (Below.refl base w).grown hg hb fun k hk => (h.lt k hk).1

theorem own_lit {w : World} {base e : Nat} {C : Array Value} (r : List UInt8) (hC : C = (Lib.byteCells r).toArray) (hb : base ≤ w.heap.size) (hr : r.length ≤ maxLen) :
  (w.alloc (.cells C e)).ownsRow base e 1 (.slice (some ⟨w.heap.size, 0, none⟩) r.length r.length) r.length (Lib.byteCells r) := by
 subst hC
 exact ⟨by simp [Lib.byteCells], .inr ⟨w.heap.size, r.length, _, rfl, hb, heap_alloc_new w _, Nat.le_refl _, hr, by simp [Lib.byteCells], by rw [List.take_of_length_le (by simp [Lib.byteCells])]⟩⟩

def AppendedV (base : Nat) (e : TypeId) (size : Nat) (w : World) (v : Value) (n : Nat) (xs : List Value) (v' : Value) (w' : World) : Prop :=
 w'.ownsRow base e size v' n xs ∧ Below base w w' ∧ w.grownBy w' v.ownBlock

theorem wp_append_lit {P : Program} {o : Oper} {a : Act} {w : World} {K : Act → World → Prop} {Q : Exit → Act → World → Prop} (s x : Operand) (t e : TypeId)
  (ho : o.op = .call { callee := .builtin .append, args := #[s, x], argTypes := #[t, t] }) (ht : P.underlying t = some (.slice e))
  {z : Value} {size bytes : Nat} (hi : (P.info? e).map (fun i => (i.zero, i.size, i.bytes)) = some (some z, size, bytes)) (hzs : z.cells.size = size) (hsz : 0 < size) (base : Nat) (w0 : World) (news : List Value) (m : Nat) (hm : news.length = m * size)
  (v : Value) (n : Nat) (xs : List Value) (hs : a.eval s = v) (hown : w0.ownsRow base e size v n xs) (hn : n + m ≤ 1000000000) (hb : bytes ≤ 1000) (hbase : base ≤ w0.heap.size)
  {C : Array Value} {k : Nat} (hC : C = news.toArray) (h1 : ∀ u ∈ news, u.oneCell' = true) (hw : w = (w0.alloc (.cells C e)).drewN k)
  (c : Nat) (hx : a.eval x = .slice (some ⟨w0.heap.size, 0, none⟩) m c)
  (h : ∀ v' w', AppendedV base e size w0 v (n + m) (xs ++ news) v' w' → K (a.put o.dst v') w') : o.wp P a w K Q := by
 obtain ⟨i0, hi, hz0, hz1, hz2⟩ := info_parts hi
 subst hw hC
 have hown' : ((w0.alloc (.cells news.toArray e)).drewN k).ownsRow base e size v n xs := hown.alloc _
 have hsz' : ((w0.alloc (.cells news.toArray e)).drewN k).heap.size = w0.heap.size + 1 := by show (w0.alloc _).heap.size = _; simp
 have hbb : (n + m) * bytes ≤ 1000000000 * 1000 := Nat.mul_le_mul hn hb
 refine wp_append_own _ s x t ho base e i0 z size bytes ht hi hz0 hz1 hz2 hzs hsz v n _ hs hown' ⟨w0.heap.size, 0, none⟩ m c news hx hm ?_ h1 (by unfold maxLen; omega) (by omega) (by omega) ?_
 ·intro j u hj
  have hadd : (⟨w0.heap.size, 0, none⟩ : Addr).add j = ⟨w0.heap.size, j, none⟩ := by unfold Addr.add; split <;> simp_all
  have hh : ((w0.alloc (.cells news.toArray e)).drewN k).heap[w0.heap.size]? = some (.cells news.toArray e (0, 0)) := heap_alloc_new w0 _
  rw [hadd, cell_of_row _ _ j _ e (0, 0) hh]
  simpa using hj
 ·intro v' w' h1 h2 _
  have hg0 : w0.grownBy w' v.ownBlock := grownBy_trans (b := (w0.alloc (.cells news.toArray e)).drewN k) (grownBy_drewN (World.grownBy_alloc w0 _ _) k) h2
  exact h v' w' ⟨h1, below_grown hown hg0 hbase, hg0⟩

theorem wpList_append_lit {P : Program} {ops : Array Oper} {rest : List Oper} {o : Oper} {a : Act} {w : World} {Q : Exit → Act → World → Prop} (hg : o.guard = none) (s x : Operand) (t e : TypeId)
  (ho : o.op = .call { callee := .builtin .append, args := #[s, x], argTypes := #[t, t] }) (ht : P.underlying t = some (.slice e))
  {z : Value} {size bytes : Nat} (hi : (P.info? e).map (fun i => (i.zero, i.size, i.bytes)) = some (some z, size, bytes)) (hzs : z.cells.size = size) (hsz : 0 < size) (base : Nat) (w0 : World) (news : List Value) (m : Nat) (hm : news.length = m * size)
  (v : Value) (n : Nat) (xs : List Value) (hs : a.eval s = v) (hown : w0.ownsRow base e size v n xs) (hn : n + m ≤ 1000000000) (hb : bytes ≤ 1000) (hbase : base ≤ w0.heap.size)
  {C : Array Value} {k : Nat} (hC : C = news.toArray) (h1 : ∀ u ∈ news, u.oneCell' = true) (hw : w = (w0.alloc (.cells C e)).drewN k)
  (c : Nat) (hx : a.eval x = .slice (some ⟨w0.heap.size, 0, none⟩) m c)
  (h : ∀ v' w', AppendedV base e size w0 v (n + m) (xs ++ news) v' w' → wpList P ops Q rest (a.put o.dst v') w') : wpList P ops Q (o :: rest) a w :=
 wpList_plain hg fun _ hK => wp_append_lit s x t e ho ht hi hzs hsz base w0 news m hm v n xs hs hown hn hb hbase hC h1 hw c hx fun v' w' h2 => hK _ _ (h v' w' h2)
theorem Bs.keep {w w' : World} {a : Option Addr} {l : List UInt8} (h : Bs w a l) (hb : Below w.heap.size w w') : Bs w' a l := h.below hb (Nat.le_refl _)
theorem Below.of_alloc (w : World) (o : Obj) : Below w.heap.size w (w.alloc o) := (Below.refl _ _).alloc (Nat.le_refl _) o

theorem own_keep {w w' : World} {base e size n : Nat} {v : Value} {xs : List Value} (h : w.ownsRow base e size v n xs) (hb : Below w.heap.size w w') : w'.ownsRow base e size v n xs :=
 h.kept (row := none) ⟨hb.os, hb.tape, hb.output, hb.size, fun k hk _ => hb.block k hk⟩ (by cases v.ownBlock <;> simp)
theorem own_base {w : World} {base base' e size n : Nat} {v : Value} {xs : List Value} (h : w.ownsRow base e size v n xs) (hb : base' ≤ base) : w.ownsRow base' e size v n xs := by
 refine ⟨h.1, ?_⟩
 rcases h.2 with h | ⟨g, cap, cur, hv, hg, r⟩
 ·exact .inl h
 ·exact .inr ⟨g, cap, cur, hv, by omega, r⟩
theorem zeroCells_bytes (k : Nat) : Builtin.zeroCells #[.int .u8 0] k = (Lib.byteCells (List.replicate k (0 : UInt8))).toArray := by
 apply Array.toList_inj.1
 simp only [Builtin.zeroCells, Lib.byteCells]
 apply List.ext_getElem
 ·simp
 ·intro i h1 h2
  have e : i % 1 = 0 := Nat.mod_one i
  simp [e]

theorem append_zeros_own {P : Program} (w : World) (t tn ty e : TypeId) (kq kn : IntKind) (ht : P.underlying t = some (.slice e)) (htn : P.underlying tn = some (.int kn))
  (hi : (P.info? e).map (fun i => (i.zero, i.size, i.bytes)) = some (some (.int .u8 0), 1, 1)) (base : Nat) (v : Value) (n : Nat) (l : List UInt8) (hown : w.ownsRow base e 1 v n (Lib.byteCells l)) (k : Nat)
  (hn : n + k ≤ 1000000000) (hbase : base ≤ w.heap.size) :
  ∃ v' w', (Builtin.append_ #[t, tn] ty #[v, .int kq k]).run P w = .ok v' w' ∧ AppendedV base e 1 w v (n + k) (Lib.byteCells (l ++ List.replicate k (0 : UInt8))) v' w' := by
 obtain ⟨i, hi0, hz, hz1, hz2⟩ := info_parts hi
 have hw : IntKind.i64.wrap (k : Int) = k := by rw [IntKind.wrap_i64]; omega
 have hneg : ¬ ((k : Int) < 0) := by omega
 have h48i : ¬ (281474976710656 < (k : Int)) := by omega
 have hln : l.length = n := by have := hown.1; simpa [Lib.byteCells] using this
 have hlen : (Lib.byteCells (l ++ List.replicate k (0 : UInt8))).length = (n + k) * 1 := by rw [byteCells_length, List.length_append, List.length_replicate, hln]; omega
 rcases hown.2 with ⟨rfl, rfl⟩ | ⟨g, cap, cur, rfl, hbg, hg, hnc, hcm, hcs, htake⟩
 ·have hl0 : l = [] := List.eq_nil_of_length_eq_zero hln
  subst hl0
  by_cases hk : k = 0
  ·subst hk
   refine ⟨.slice none 0 0, w, ?_, World.ownsRow_nil w base e 1, Below.refl _ _, World.grownBy.refl w _⟩
   simp [Builtin.append_, run_underlying ht, run_underlying htn, sizeOf, typeInfo, hi0, asInt, asIntOf, IntKind.wrap_i64]
  ·have hr := run_append_nil_zeros (P := P) w t tn ty e i (.int .u8 0) kq kn ht htn hi0 hz k (by omega) (by omega) (by omega) (by rw [hz2]; omega)
   simp only [Nat.zero_add] at hlen ⊢
   refine ⟨_, _, hr, ⟨hlen, .inr ⟨w.heap.size, _, _, rfl, hbase, heap_alloc_new w.drew _, grownCap_ge w k 0 e, grownCap_le_maxLen w k 0 e (by unfold maxLen; omega), ?_, ?_⟩⟩, ?_, ?_⟩
   ·have := grownCap_ge w k 0 e
    simp only [Array.size_append, size_zeroCells, Value.cells]
    simp; omega
   ·simp only [Value.cells, zeroCells_bytes, List.nil_append]
    rw [Array.toList_append, List.take_append_of_le_length (by simp [Lib.byteCells])]
    simp [Lib.byteCells]
   ·exact ((Below.refl _ w).drew).alloc hbase _
   ·exact ⟨rfl, rfl, rfl, by simp, fun j hj _ => heap_alloc_old w.drew _ hj⟩
 ·by_cases hroom : n + k ≤ cap
  ·have hfit : n + k ≤ cur.size := by rw [hcs]; omega
   have h1 : ∀ u ∈ Lib.byteCells (List.replicate k (0 : UInt8)), u.oneCell' = true := by
    intro u hu
    simp only [Lib.byteCells, List.mem_map] at hu
    obtain ⟨x, _, rfl⟩ := hu
    rfl
   have hst := run_storeCells_at P g n e (Lib.byteCells (List.replicate k (0 : UInt8))) 0 cur w hg (by rw [byteCells_length, List.length_replicate]; simpa using hfit) h1
   simp only [Nat.add_zero] at hst
   have hr : (Builtin.append_ #[t, tn] ty #[.slice (some ⟨g, 0, none⟩) n cap, .int kq k]).run P w = .ok (.slice (some ⟨g, 0, none⟩) (n + k) cap) (w.setRow g (cur.toList.take n ++ Lib.byteCells (List.replicate k (0 : UInt8)) ++ cur.toList.drop (n + (Lib.byteCells (List.replicate k (0 : UInt8))).length)).toArray) := by
    by_cases hk : k = 0
    ·subst hk
     have hs0 : storeCells ⟨g, n, none⟩ [] = (pure () : Sem Unit) := rfl
     simp [Builtin.append_, run_underlying ht, run_underlying htn, sizeOf, typeInfo, hi0, hz1, hz2, asInt, asIntOf, IntKind.wrap_i64, hnc, Addr.add_lit, Lib.byteCells] at hst ⊢
     simp [hst]
    ·simp [Builtin.append_, run_underlying ht, run_underlying htn, sizeOf, typeInfo, zeroValue, hi0, hz, hz1, hz2, asInt, asIntOf, hw, hneg, h48i, hroom, Addr.add_lit, hk, Value.cells, zeroCells_bytes, hst]
   refine ⟨_, _, hr, ⟨hlen, .inr ⟨g, cap, _, rfl, hbg, setRow_heap w g cur _ e _ hg, hroom, hcm, ?_, ?_⟩⟩, ?_, ?_⟩
   ·simp only [List.size_toArray, List.length_append, List.length_take, List.length_drop, Array.length_toList, byteCells_length, List.length_replicate]
    omega
   ·have hx : cur.toList.take n = Lib.byteCells l := by rw [← htake, Nat.mul_one]
    rw [hx, ← byteCells_app, ← hlen]
    exact List.take_left
   ·exact below_setRow (Below.refl _ _) hbg _
   ·exact ⟨rfl, rfl, rfl, by simp [World.setRow], fun j _ hj => setRow_other w g j _ (fun e => hj (by simp [Value.ownBlock, e]))⟩
  ·have hcells : ∀ j u, (Lib.byteCells l)[j]? = some u → w.drew.cell? ((⟨g, 0, none⟩ : Addr).add j) = some u := hown.cells (g := g) rfl
   have hold := run_firstCells_some (P := P) w.drew i.size n ⟨g, 0, none⟩ n cap (Lib.byteCells l) (by rw [hz1, byteCells_length, hln]; omega) hcells
   have hr := run_append_grow_zeros (P := P) w t tn ty e i (.int .u8 0) kq kn ht htn hi0 hz (some ⟨g, 0, none⟩) n cap (Lib.byteCells l) hold k (by omega) (by omega) (by omega) (by omega) (by rw [hz2]; omega)
    (by rw [hz2]; exact growslice_fits (bytes := 1) (by omega) (by omega))
   have hge := grownCap_ge w (n + k) cap e
   refine ⟨_, _, hr, ⟨hlen, .inr ⟨w.heap.size, _, _, rfl, hbase, heap_alloc_new w.drew _, hge, grownCap_le_maxLen w (n + k) cap e (by unfold maxLen; omega), ?_, ?_⟩⟩, ?_, ?_⟩
   ·simp only [Array.size_append, size_zeroCells, Value.cells]
    simp [byteCells_length, hln]; omega
   ·simp only [Value.cells, zeroCells_bytes]
    rw [Array.toList_append, Array.toList_append, ← byteCells_app, List.take_append_of_le_length (by simp [Lib.byteCells, hln])]
    rw [List.take_of_length_le (by simp [Lib.byteCells, hln])]
   ·exact ((Below.refl _ w).drew).alloc hbase _
   ·exact ⟨rfl, rfl, rfl, by simp, fun j hj _ => heap_alloc_old w.drew _ hj⟩

theorem append_bs_own {P : Program} (w : World) (t ty e : TypeId) (ht : P.underlying t = some (.slice e)) (hi : (P.info? e).map (fun i => (i.zero, i.size, i.bytes)) = some (some (.int .u8 0), 1, 1)) (base : Nat)
  (v : Value) (n : Nat) (l : List UInt8) (hown : w.ownsRow base e 1 v n (Lib.byteCells l)) (pa : Option Addr) (m c : Nat) (r : List UInt8) (hm : r.length = m) (hr : Bs w pa r)
  (hn : n + m ≤ 1000000000) (hbase : base ≤ w.heap.size) :
  ∃ v' w', (Builtin.append_ #[t, t] ty #[v, .slice pa m c]).run P w = .ok v' w' ∧ AppendedV base e 1 w v (n + m) (Lib.byteCells (l ++ r)) v' w' := by
 obtain ⟨i, hi0, hz, hz1, hz2⟩ := info_parts hi
 have some_ : ∀ a : Addr, pa = some a → (∀ j u, (Lib.byteCells r)[j]? = some u → w.cell? (a.add j) = some u) → ∃ v' w', (Builtin.append_ #[t, t] ty #[v, .slice pa m c]).run P w = .ok v' w' ∧ AppendedV base e 1 w v (n + m) (Lib.byteCells (l ++ r)) v' w' := by
  intro a ha hc
  subst ha
  have h1 : ∀ u ∈ Lib.byteCells r, u.oneCell' = true := by
   intro u hu
   simp only [Lib.byteCells, List.mem_map] at hu
   obtain ⟨x, _, rfl⟩ := hu
   rfl
  obtain ⟨v', w', h2, h3, h4, _⟩ := run_append_own (P := P) w base t ty e i (.int .u8 0) 1 1 ht hi0 hz hz1 hz2 rfl (by decide) v n (Lib.byteCells l) hown a m c (Lib.byteCells r) (by rw [byteCells_length, hm]; omega) hc h1 (by unfold maxLen; omega) (by omega) hbase
  exact ⟨v', w', h2, by rw [byteCells_app]; exact h3, below_grown hown h4 hbase, h4⟩
 rcases hr with rfl | ⟨b, off, rfl, hb, hc⟩
 ·obtain rfl : 0 = m := hm
  cases pa with
  | some a => exact some_ a rfl fun j u hu => by simp [Lib.byteCells] at hu
  | none =>
   refine ⟨v, w, ?_, by simpa using hown, Below.refl _ _, World.grownBy.refl w _⟩
   rcases hown.2 with ⟨rfl, rfl⟩ | ⟨g, cap, cur, rfl, _, _, hnc, _⟩
   ·simp [Builtin.append_, run_underlying ht, sizeOf, typeInfo, hi0, Builtin.lenOf, Builtin.firstCells]
   ·simp [Builtin.append_, run_underlying ht, sizeOf, typeInfo, hi0, Builtin.lenOf, Builtin.firstCells, hnc, storeCells]
 ·refine some_ _ rfl fun j u hu => ?_
  have hj : j < r.length := by
   rcases Nat.lt_or_ge j r.length with h | h
   ·exact h
   ·rw [List.getElem?_eq_none (by rw [byteCells_length]; exact h)] at hu; cases hu
  have ha : (⟨b, off, none⟩ : Addr).add j = ⟨b, off + j, none⟩ := by unfold Addr.add; split <;> simp_all
  rw [ha, hc j hj, ← hu]
  simp [Lib.byteCells, hj]
theorem wpList_append_bs {P : Program} {ops : Array Oper} {rest : List Oper} {o : Oper} {a : Act} {w : World} {Q : Exit → Act → World → Prop} (hg : o.guard = none) (s x : Operand) (t e : TypeId)
  (ho : o.op = .call { callee := .builtin .append, args := #[s, x], argTypes := #[t, t] }) (ht : P.underlying t = some (.slice e))
  (hi : (P.info? e).map (fun i => (i.zero, i.size, i.bytes)) = some (some (.int .u8 0), 1, 1)) (base : Nat)
  (v : Value) (n : Nat) (l : List UInt8) (hs : a.eval s = v) (hown : w.ownsRow base e 1 v n (Lib.byteCells l)) (pa : Option Addr) (m c : Nat) (r : List UInt8) (hx : a.eval x = .slice pa m c) (hm : r.length = m) (hr : Bs w pa r)
  (hn : n + m ≤ 1000000000) (hbase : base ≤ w.heap.size)
  (h : ∀ v' w', AppendedV base e 1 w v (n + m) (Lib.byteCells (l ++ r)) v' w' → wpList P ops Q rest (a.put o.dst v') w') : wpList P ops Q (o :: rest) a w := by
 obtain ⟨v', w', h1, h2⟩ := append_bs_own (P := P) w t o.type e ht hi base v n l hown pa m c r hm hr hn hbase
 exact Lib.wpList_append_run w hg s x t t ho v (.slice pa m c) hs hx v' w' h1 (h v' w' h2)
theorem wpList_append_zeros {P : Program} {ops : Array Oper} {rest : List Oper} {o : Oper} {a : Act} {w : World} {Q : Exit → Act → World → Prop} (hg : o.guard = none) (s x : Operand) (t tn e : TypeId)
  (ho : o.op = .call { callee := .builtin .append, args := #[s, x], argTypes := #[t, tn] }) (ht : P.underlying t = some (.slice e)) (kn : IntKind) (htn : P.underlying tn = some (.int kn))
  (hi : (P.info? e).map (fun i => (i.zero, i.size, i.bytes)) = some (some (.int .u8 0), 1, 1)) (base : Nat)
  (v : Value) (n : Nat) (l : List UInt8) (hs : a.eval s = v) (hown : w.ownsRow base e 1 v n (Lib.byteCells l)) (kq : IntKind) (k : Nat) (z : Int) (hz : z = (k : Int)) (hx : a.eval x = .int kq z)
  (hn : n + k ≤ 1000000000) (hbase : base ≤ w.heap.size)
  (h : ∀ v' w', AppendedV base e 1 w v (n + k) (Lib.byteCells (l ++ List.replicate k (0 : UInt8))) v' w' → wpList P ops Q rest (a.put o.dst v') w') : wpList P ops Q (o :: rest) a w := by
 subst hz
 obtain ⟨v', w', h1, h2⟩ := append_zeros_own (P := P) w t tn o.type e kq kn ht htn hi base v n l hown k hn hbase
 exact Lib.wpList_append_run w hg s x t tn ho v (.int kq (k : Int)) hs hx v' w' h1 (h v' w' h2)
theorem own_empty (w : World) (e : TypeId) : (w.alloc (.cells #[] e)).ownsRow w.heap.size e 1 (.slice (some ⟨w.heap.size, 0, none⟩) 0 0) 0 (Lib.byteCells []) :=
 own_lit (base := w.heap.size) (e := e) (C := #[]) [] rfl (Nat.le_refl _) (by decide)
theorem own_form {w : World} {base e size n : Nat} {v : Value} {xs : List Value} (h : w.ownsRow base e size v n xs) : ∃ pa c, v = .slice pa n c ∧ n ≤ c := by
 rcases h.2 with ⟨rfl, rfl⟩ | ⟨g, cap, cur, rfl, _, _, hc, _⟩
 ·exact ⟨none, 0, rfl, Nat.le_refl _⟩
 ·exact ⟨_, cap, rfl, hc⟩
theorem order_fmt (b : Nat) : (FloatKind.f64.format.order b b != some .eq) = isNaNB b := neq_self b
theorem run_bits (b : Nat) (w : World) : (callFunc 106 #[.float .f64 b]).run Tryz.prog w = .ok (.value (.int .u64 b)) w := by
 rw [run_callFunc_extern Tryz.func106 (by kernel_rfl) (by kernel_rfl) (by kernel_rfl) (show Extern.find Tryz.f106 = some Extern.MathFloatBits.float64bits by kernel_rfl)]
 rfl
theorem run_from (n : Int) (w : World) : (callFunc 109 #[.int .u64 n]).run Tryz.prog w = .ok (.value (.float .f64 n.toNat)) w := by
 rw [run_callFunc_extern Tryz.func109 (by kernel_rfl) (by kernel_rfl) (by kernel_rfl) (show Extern.find Tryz.f109 = some Extern.MathFloatBits.float64frombits by kernel_rfl)]
 rfl

set_option maxRecDepth 100000 in
theorem fbits_any (b : Nat) (w : World) : Calls Tryz.prog 177 #[.float .f64 b] w fun e w' => e = .returned (.int .u64 (canB b)) ∧ w = w' := by
 have h := order_fmt b
 have hr := run_bits b
 cases hn : isNaNB b with
 | true =>
  rw [hn] at h
  have hc : canB b = nanB := if_pos hn
  rw [hc]
  clear hc hn hr
  go_enter Tryz.func177, Tryz.ntmps177
  go_wp2
  go_ret
  exact ⟨rfl, rfl⟩
 | false =>
  rw [hn] at h
  have hc : canB b = b := if_neg (by rw [hn]; decide)
  rw [hc]
  clear hc hn
  go_enter Tryz.func177, Tryz.ntmps177
  go_wp2
  go_ret
  exact ⟨rfl, rfl⟩

set_option maxRecDepth 100000 in
theorem rbits_any (b : Nat) (w : World) : Calls Tryz.prog 50 #[.float .f64 b] w fun e w' => e = .returned (.int .u64 (canB b)) ∧ w = w' := by
 have h := order_fmt b
 have hr := run_bits b
 cases hn : isNaNB b with
 | true =>
  rw [hn] at h
  have hc : canB b = nanB := if_pos hn
  rw [hc]
  clear hc hn hr
  go_enter Tryz.func50, Tryz.ntmps50
  go_wp2
  go_ret
  exact ⟨rfl, rfl⟩
 | false =>
  rw [hn] at h
  have hc : canB b = b := if_neg (by rw [hn]; decide)
  rw [hc]
  clear hc hn
  go_enter Tryz.func50, Tryz.ntmps50
  go_wp2
  go_ret
  exact ⟨rfl, rfl⟩

set_option maxRecDepth 100000 in
theorem fromBits_any (n : Nat) (w : World) : Calls Tryz.prog 176 #[.int .u64 n] w fun e w' => e = .returned (.float .f64 (canB n)) ∧ w = w' := by
 have hr := fun n : Int => run_from n
 go_enter Tryz.func176, Tryz.ntmps176
 go_wp2_with (go_at_call 177; refine (fbits_any _ _).mono ?_; rintro e w' ⟨rfl, rfl⟩)
 go_ret
 exact ⟨rfl, rfl⟩

theorem same_any' (a b : Nat) (w : World) : Calls Tryz.prog 14 #[.float .f64 a, .float .f64 b] w fun e w' => e = .returned (.bool ((canB a : Int) == (canB b : Int))) ∧ w = w' := by
 go_enter Tryz.func14, Tryz.ntmps14
 go_wp2_with fail
 refine (rbits_any a w).mono ?_
 rintro e w' ⟨rfl, rfl⟩
 go_wp2_with fail
 refine (rbits_any b w).mono ?_
 rintro e w' ⟨rfl, rfl⟩
 go_wp2_with fail
 go_ret
 exact ⟨rfl, rfl⟩

theorem andNot_sign {b : Nat} (h : b < 18446744073709551616) : bits .andNot .u64 (b : Int) 9223372036854775808 = ((magB b : Nat) : Int) := by
 have := u64_andNot_nat b 9223372036854775808 h (by decide)
 have e : b &&& (18446744073709551615 - 9223372036854775808) = magB b := by
  have := Nat.and_two_pow_sub_one_eq_mod b 63
  unfold magB
  exact this
 rw [e] at this
 exact this

theorem can_nan {b : Nat} (h : b < 18446744073709551616) (h1 : 9218868437227405312 < bits .andNot .u64 (b : Int) 9223372036854775808) : canB b = nanB := by
 rw [andNot_sign h] at h1
 exact if_pos (decide_eq_true (by omega))
theorem can_not {b : Nat} (h : b < 18446744073709551616) (h1 : bits .andNot .u64 (b : Int) 9223372036854775808 ≤ 9218868437227405312) : canB b = b := by
 rw [andNot_sign h] at h1
 refine if_neg ?_
 unfold isNaNB
 rw [decide_eq_true_iff]
 omega
set_option maxRecDepth 100000 in
theorem rfrom_any (b : Nat) (w : World) (h : b < 18446744073709551616) : Calls Tryz.prog 48 #[.int .u64 b] w fun e w' => e = .returned (.float .f64 (canB b)) ∧ w = w' := by
 have hr := fun n : Int => run_from n
 have HB := Lib.hid h
 clear h
 go_enter Tryz.func48, Tryz.ntmps48
 go_wp2
 ·rw [can_nan HB.out (by assumption)]
  go_ret
  exact ⟨rfl, rfl⟩
 ·rw [can_not HB.out (by assumption)]
  go_ret
  exact ⟨rfl, rfl⟩
end Go.Proofs.YtelakcjbknbehaaGreat
