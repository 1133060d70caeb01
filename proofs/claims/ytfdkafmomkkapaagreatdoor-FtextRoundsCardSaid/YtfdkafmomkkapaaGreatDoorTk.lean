/- Tools: small laws on memory for this seat's walks. -/
import Derived.WalkKit
import Derived.WalkSpells
import Derived.Lib.BufferRead
import Derived.Lib.Hide
import Derived.Deep.Draws
import Derived.Test.YtfdkafmomkkapaaGreatDoorPl
namespace Go.Proofs.YtfdkafmomkkapaaGreatDoor
open Go.RowKit Go.Lib

theorem ret_int {k : IntKind} {a b : Int} (h : a = b) : Ending.returned (.int k a) = .returned (.int k b) := by rw [h]

/-- the string of an owned row of bytes. -/
theorem own_convert {P : Program} {w : World} {base src dst e n : Nat} {v : Value} {l : List UInt8} (hs : P.underlying src = some (.slice e)) (he : P.underlying e = some (.int .u8)) (hd : P.underlying dst = some .string)
    (h : w.ownsRow base e 1 v n (byteCells l)) : (convert src dst v).run P w = .ok (.string ⟨l.toArray⟩) w := by
  have hn : l.length = n := by have := h.1; simpa [byteCells] using this
  subst hn
  rcases h.2 with ⟨rfl, h0⟩ | ⟨g, cap, cur, rfl, _, hg, _, _, _, htk⟩
  · have : l = [] := by simpa using h0
    subst this
    exact run_convert_nil_bytes w src dst e 0 hs he hd
  · exact run_convert_bytes_back w src dst e _ _ l hs he hd (bytes_of_row hg (by simpa using htk))

theorem byteCells_length (l : List UInt8) : (byteCells l).length = l.length := by simp [byteCells]
theorem byteCells_app (l r : List UInt8) : byteCells (l ++ r) = byteCells l ++ byteCells r := by simp [byteCells]

theorem and15 (x : Nat) (h : x < 256) : bits BinOp.and IntKind.u8 (x : Int) 15 = (x : Int) % 16 := by
  have key : ∀ y : Fin 256, bits BinOp.and IntKind.u8 ((y.val : Nat) : Int) 15 = ((y.val : Nat) : Int) % 16 := by decide +kernel
  exact key ⟨x, h⟩

theorem byteCells_at (l : List UInt8) (i : Nat) (h : i < l.length) : (byteCells l).toArray[i]? = some (.int .u8 l[i].toNat) := by
  simp [byteCells, h]

/-- the bytes l lie where a slice with address a reads. -/
def Bs (w : World) (a : Option Addr) (l : List UInt8) : Prop :=
  l = [] ∨ ∃ b off, a = some ⟨b, off, none⟩ ∧ b < w.heap.size ∧ ∀ j (h : j < l.length), w.cell? ⟨b, off + j, none⟩ = some (.int .u8 l[j].toNat)

theorem Bs.below {w w' : World} {a : Option Addr} {l : List UInt8} (h : Bs w a l) {B : Nat} (hb : Below B w w') (hB : w.heap.size ≤ B) : Bs w' a l := by
  rcases h with h | ⟨b, off, ha, hlt, hc⟩
  · exact Or.inl h
  · exact Or.inr ⟨b, off, ha, Nat.lt_of_lt_of_le hlt hb.size, fun j hj => (hb.cell (by show b < B; omega)).trans (hc j hj)⟩

theorem Bs.block {w : World} {g : Nat} {l : List UInt8} {C : Array Value} {e : TypeId} {fr : Nat × Nat} (h : w.heap[g]? = some (.cells C e fr)) (hC : C.toList.take l.length = byteCells l) : Bs w (some ⟨g, 0, none⟩) l := by
  refine Or.inr ⟨g, 0, rfl, (Array.getElem?_eq_some_iff.1 h).1, fun j hj => ?_⟩
  rw [cell_of_row _ _ _ _ _ _ h, Nat.zero_add]
  have h2 : (byteCells l)[j]? = some (.int .u8 l[j].toNat) := by simp [byteCells, hj]
  rw [← hC, List.getElem?_take, if_pos hj] at h2
  simpa using h2

theorem Bs.row {w : World} {g : Nat} {l : List UInt8} {e : TypeId} {fr : Nat × Nat} (h : w.heap[g]? = some (.cells (byteCells l).toArray e fr)) : Bs w (some ⟨g, 0, none⟩) l :=
  Bs.block h (by rw [List.take_of_length_le (by simp [byteCells])])

theorem Bs.own {w : World} {base e n : Nat} {l : List UInt8} {a : Option Addr} {m c : Nat} (h : w.ownsRow base e 1 (.slice a m c) n (byteCells l)) : Bs w a l := by
  rcases h.2 with ⟨hv, h0⟩ | ⟨g, cap, cur, hv, _, hg, _, _, _, htk⟩
  · left; have := h.1; simp [byteCells, h0] at this; exact this
  · cases hv
    have hn : l.length = n := by have := h.1; simpa [byteCells] using this
    exact Bs.block hg (by rw [hn]; simpa using htk)

/-- append, as one step of a region that draws: onto an owned row. -/
theorem step_append_own {P : Program} {ops : Array Oper} {o : Oper} {a : Act} {w : World} {K : Act → World → Prop} {Q : Exit → Act → World → Prop} {E : Prop} (hg : o.guard = none) (s x : Operand) (t : TypeId)
    (ho : o.op = .call { callee := .builtin .append, args := #[s, x], argTypes := #[t, t] })
    (base : Nat) (e : TypeId) (i : TypeInfo) (z : Value) (size bytes : Nat) (ht : P.underlying t = some (.slice e)) (hi : P.info? e = some i) (hz : i.zero = some z)
    (hsize : i.size = size) (hby : i.bytes = bytes) (hzs : z.cells.size = size) (hsz : 0 < size)
    (v : Value) (n : Nat) (xs : List Value) (hs : a.eval s = v) (hown : w.ownsRow base e size v n xs)
    (ad : Addr) (m c : Nat) (news : List Value) (hx : a.eval x = .slice (some ad) m c) (hl : news.length = m * size) (hnews : ∀ j u, news[j]? = some u → w.cell? (ad.add j) = some u) (h1 : ∀ u ∈ news, u.oneCell' = true)
    (h63 : n + m ≤ maxLen) (hbytes : (n + m) * bytes ≤ 140737488355328) (hbase : base ≤ w.heap.size)
    (h : ∀ v' w', w'.ownsRow base e size v' (n + m) (xs ++ news) → w.grownBy w' v.ownBlock → K (a.put o.dst v') w') :
    if Region.wanted o (yielded ops a.tmps) = true then Oper.wp P o a w K Q else E := by
  have hw : Region.wanted o (yielded ops a.tmps) = true := by simp [Region.wanted, hg]
  rw [if_pos hw]
  exact wp_append_own w s x t ho base e i z size bytes ht hi hz hsize hby hzs hsz v n xs hs hown ad m c news hx hl hnews h1 h63 hbytes hbase fun v' w' h2 h3 _ => h v' w' h2 h3

theorem hexTab (i : Nat) (h : i < (ByteArray.mk #[48, 49, 50, 51, 52, 53, 54, 55, 56, 57, 97, 98, 99, 100, 101, 102]).size) :
    (ByteArray.mk #[48, 49, 50, 51, 52, 53, 54, 55, 56, 57, 97, 98, 99, 100, 101, 102])[i]'h = hexc i := by
  have key : ∀ y : Fin 16, (ByteArray.mk #[48, 49, 50, 51, 52, 53, 54, 55, 56, 57, 97, 98, 99, 100, 101, 102])[y.val]'(by exact y.isLt) = hexc y.val := by decide +kernel
  exact key ⟨i, h⟩

theorem hexNew (i j : Nat) (h : i < (ByteArray.mk #[48, 49, 50, 51, 52, 53, 54, 55, 56, 57, 97, 98, 99, 100, 101, 102]).size) (k : j < (ByteArray.mk #[48, 49, 50, 51, 52, 53, 54, 55, 56, 57, 97, 98, 99, 100, 101, 102]).size) :
    #[Value.int IntKind.u8 (((ByteArray.mk #[48, 49, 50, 51, 52, 53, 54, 55, 56, 57, 97, 98, 99, 100, 101, 102])[i]'h).toNat : Int), Value.int IntKind.u8 (((ByteArray.mk #[48, 49, 50, 51, 52, 53, 54, 55, 56, 57, 97, 98, 99, 100, 101, 102])[j]'k).toNat : Int)] = (byteCells [hexc i, hexc j]).toArray := by
  rw [hexTab, hexTab]; rfl

/-- the cells of a block of bytes. -/
theorem new_bytes {w : World} {g : Nat} {e : TypeId} {fr : Nat × Nat} {r : List UInt8} (h : w.heap[g]? = some (.cells (byteCells r).toArray e fr)) :
    ∀ j u, (byteCells r)[j]? = some u → w.cell? ((⟨g, 0, none⟩ : Addr).add j) = some u := by
  intro j u hj
  have hadd : (⟨g, 0, none⟩ : Addr).add j = ⟨g, j, none⟩ := by unfold Addr.add; split <;> simp_all
  rw [hadd, cell_of_row w g j _ e fr h]
  simpa using hj

theorem grownBy_trans {a b c : World} {row : Option Nat} (h : a.grownBy b row) (k : b.grownBy c row) : a.grownBy c row :=
  ⟨k.os.trans h.os, k.tape.trans h.tape, k.output.trans h.output, Nat.le_trans h.size k.size, fun i hi hn => (k.block i (Nat.lt_of_lt_of_le hi h.size) hn).trans (h.block i hi hn)⟩

theorem grownBy_drewN {a b : World} {row : Option Nat} (h : a.grownBy b row) (k : Nat) : a.grownBy (b.drewN k) row := ⟨h.os, h.tape, h.output, h.size, h.block⟩

theorem _root_.Go.RowKit.Below.drewN {B : Nat} {a w : World} (h : Below B a w) (n : Nat) : Below B a (w.drewN n) := ⟨h.os, h.tape, h.output, h.size, h.block⟩

theorem below_grown {w w' : World} {base : Nat} {e : TypeId} {size : Nat} {v : Value} {n : Nat} {xs : List Value} (h : w.ownsRow base e size v n xs) (hg : w.grownBy w' v.ownBlock) (hb : base ≤ w.heap.size) : Below base w w' :=
  (Below.refl base w).grown hg hb fun k hk => (h.lt k hk).1

/-- what an append onto an owned row leaves. -/
def Appended (base : Nat) (e : TypeId) (w : World) (v : Value) (n : Nat) (l : List UInt8) (v' : Value) (w' : World) : Prop :=
  w'.ownsRow base e 1 v' n (byteCells l) ∧ Below base w w' ∧ w.grownBy w' v.ownBlock

/-- append(s, x, ..) of bytes that a new block holds, to an owned row of bytes, in a region that draws. -/
theorem step_append_new {P : Program} {ops : Array Oper} {o : Oper} {a : Act} {w : World} {K : Act → World → Prop} {Q : Exit → Act → World → Prop} {E : Prop} (hg : o.guard = none) (s x : Operand) (t e : TypeId)
    (ho : o.op = .call { callee := .builtin .append, args := #[s, x], argTypes := #[t, t] }) (ht : P.underlying t = some (.slice e))
    (hi : (P.info? e).map (fun i => (i.zero, i.size, i.bytes)) = some (some (.int .u8 0), 1, 1)) (base : Nat) (w0 : World) (r : List UInt8)
    (v : Value) (n : Nat) (l : List UInt8) (hs : a.eval s = v) (hown : w0.ownsRow base e 1 v n (byteCells l)) (hn : n + r.length ≤ 140737488355328) (hbase : base ≤ w0.heap.size)
    {C : Array Value} {k : Nat} (hC : C = (byteCells r).toArray) (hw : w = (w0.alloc (.cells C e)).drewN k)
    (c : Nat) (hx : a.eval x = .slice (some ⟨w0.heap.size, 0, none⟩) r.length c)
    (h : ∀ v' w', Appended base e w0 v (n + r.length) (l ++ r) v' w' → K (a.put o.dst v') w') :
    if Region.wanted o (yielded ops a.tmps) = true then Oper.wp P o a w K Q else E := by
  obtain ⟨i0, hi, hz0, hz1, hz2⟩ := info_parts hi
  subst hw hC
  have hown' : ((w0.alloc (.cells (byteCells r).toArray e)).drewN k).ownsRow base e 1 v n (byteCells l) := hown.alloc _
  have hsz : ((w0.alloc (.cells (byteCells r).toArray e)).drewN k).heap.size = w0.heap.size + 1 := by show (w0.alloc _).heap.size = _; simp
  refine step_append_own hg s x t ho base e i0 (.int .u8 0) 1 1 ht hi hz0 hz1 hz2 rfl (by decide) v n _ hs hown' ⟨w0.heap.size, 0, none⟩ r.length c (byteCells r) hx (by simp [byteCells]) (new_bytes (e := e) (fr := (0, 0)) ?_) (byteCells_one r) (by unfold maxLen; omega) (by omega) (by omega) ?_
  · exact heap_alloc_new w0 _
  · intro v' w' h1 h2
    rw [← byteCells_app] at h1
    have hg0 : w0.grownBy w' v.ownBlock := grownBy_trans (b := (w0.alloc (.cells (byteCells r).toArray e)).drewN k) (grownBy_drewN (World.grownBy_alloc w0 _ _) k) h2
    exact h v' w' ⟨h1, below_grown hown hg0 hbase, hg0⟩

/-- a literal's block, as an owned row. -/
theorem own_lit {w : World} {base e : Nat} {C : Array Value} (r : List UInt8) (hC : C = (byteCells r).toArray) (hb : base ≤ w.heap.size) (hr : r.length ≤ maxLen) :
    (w.alloc (.cells C e)).ownsRow base e 1 (.slice (some ⟨w.heap.size, 0, none⟩) r.length r.length) r.length (byteCells r) := by
  subst hC
  exact ⟨by simp [byteCells], .inr ⟨w.heap.size, r.length, _, rfl, hb, heap_alloc_new w _, Nat.le_refl _, hr, by simp [byteCells], by rw [List.take_of_length_le (by simp [byteCells])]⟩⟩

/-- append(s, x...) of an owned row of bytes, or nil, to an owned row of bytes. -/
theorem wp_append_row {P : Program} {o : Oper} {a : Act} {w : World} {K : Act → World → Prop} {Q : Exit → Act → World → Prop} (s x : Operand) (t e : TypeId)
    (ho : o.op = .call { callee := .builtin .append, args := #[s, x], argTypes := #[t, t] }) (ht : P.underlying t = some (.slice e))
    (hi : (P.info? e).map (fun i => (i.zero, i.size, i.bytes)) = some (some (.int .u8 0), 1, 1)) (base : Nat)
    (v : Value) (n : Nat) (l : List UInt8) (hs : a.eval s = v) (hown : w.ownsRow base e 1 v n (byteCells l)) (base' : Nat)
    (xv : Value) (m : Nat) (r : List UInt8) (hx : a.eval x = xv) (hsrc : w.ownsRow base' e 1 xv m (byteCells r)) (hn : n + m ≤ 140737488355328) (hbase : base ≤ w.heap.size)
    (h : ∀ v' w', Appended base e w v (n + m) (l ++ r) v' w' → K (a.put o.dst v') w') : o.wp P a w K Q := by
  obtain ⟨i0, hi, hz0, hz1, hz2⟩ := info_parts hi
  have hrl : r.length = m := by have := hsrc.1; simpa [byteCells] using this
  rcases hsrc.2 with ⟨rfl, hm0⟩ | ⟨g, cap, cur, rfl, _, hg, _, _, _, htk⟩
  · subst hm0
    have hr : r = [] := by simpa using hrl
    subst hr
    have hrun := run_append_owned_none (P := P) (w := w) base t o.type e i0 1 ht hi v n _ hown
    unfold Oper.wp
    simp [execOp, ho, resolve, invoke, builtin, hs, hx, hrun, Result.andThen]
    exact h v w ⟨by simpa using hown, Below.refl _ _, World.grownBy.refl w _⟩
  · refine wp_append_own w s x t ho base e i0 (.int .u8 0) 1 1 ht hi hz0 hz1 hz2 rfl (by decide) v n _ hs hown ⟨g, 0, none⟩ m cap (byteCells r) hx (by simp [byteCells, hrl]) ?_ (byteCells_one r) (by unfold maxLen; omega) (by omega) hbase ?_
    · intro j u hj
      exact hsrc.cells (g := g) rfl j u hj
    · intro v' w' h1 h2 _
      rw [← byteCells_app] at h1
      exact h v' w' ⟨h1, below_grown hown h2 hbase, h2⟩

theorem wpList_append_row {P : Program} {ops : Array Oper} {rest : List Oper} {o : Oper} {a : Act} {w : World} {Q : Exit → Act → World → Prop} (hg : o.guard = none) (s x : Operand) (t e : TypeId)
    (ho : o.op = .call { callee := .builtin .append, args := #[s, x], argTypes := #[t, t] }) (ht : P.underlying t = some (.slice e))
    (hi : (P.info? e).map (fun i => (i.zero, i.size, i.bytes)) = some (some (.int .u8 0), 1, 1)) (base : Nat)
    (v : Value) (n : Nat) (l : List UInt8) (hs : a.eval s = v) (hown : w.ownsRow base e 1 v n (byteCells l)) (base' : Nat)
    (xv : Value) (m : Nat) (r : List UInt8) (hx : a.eval x = xv) (hsrc : w.ownsRow base' e 1 xv m (byteCells r)) (hn : n + m ≤ 140737488355328) (hbase : base ≤ w.heap.size)
    (h : ∀ v' w', Appended base e w v (n + m) (l ++ r) v' w' → wpList P ops Q rest (a.put o.dst v') w') : wpList P ops Q (o :: rest) a w :=
  wpList_plain hg fun _ hK => wp_append_row s x t e ho ht hi base v n l hs hown base' xv m r hx hsrc hn hbase fun v' w' h2 => hK _ _ (h v' w' h2)

/-- what an append onto an owned row of values leaves. -/
def AppendedV (base : Nat) (e : TypeId) (size : Nat) (w : World) (v : Value) (n : Nat) (xs : List Value) (v' : Value) (w' : World) : Prop :=
  w'.ownsRow base e size v' n xs ∧ Below base w w' ∧ w.grownBy w' v.ownBlock

/-- append(s, x) of a literal's values to an owned row. -/
theorem wp_append_lit {P : Program} {o : Oper} {a : Act} {w : World} {K : Act → World → Prop} {Q : Exit → Act → World → Prop} (s x : Operand) (t e : TypeId)
    (ho : o.op = .call { callee := .builtin .append, args := #[s, x], argTypes := #[t, t] }) (ht : P.underlying t = some (.slice e))
    {z : Value} {size bytes : Nat} (hi : (P.info? e).map (fun i => (i.zero, i.size, i.bytes)) = some (some z, size, bytes)) (hzs : z.cells.size = size) (hsz : 0 < size) (base : Nat) (w0 : World) (news : List Value) (m : Nat) (hm : news.length = m * size)
    (v : Value) (n : Nat) (xs : List Value) (hs : a.eval s = v) (hown : w0.ownsRow base e size v n xs) (hn : n + m ≤ 1000000000) (hb : bytes ≤ 1000) (hbase : base ≤ w0.heap.size)
    {C : Array Value} {k : Nat} (hC : C = news.toArray) (h1 : ∀ u ∈ news, u.oneCell' = true) (hw : w = (w0.alloc (.cells C e)).drewN k)
    (c : Nat) (hx : a.eval x = .slice (some ⟨w0.heap.size, 0, none⟩) m c)
    (h : ∀ v' w', AppendedV base e size w0 v (n + m) (xs ++ news) v' w' → K (a.put o.dst v') w') : o.wp P a w K Q := by
  obtain ⟨i0, hi, hz0, hz1, hz2⟩ := info_parts hi
  subst hw hC
  have hown' : ((w0.alloc (.cells news.toArray e)).drewN k).ownsRow base e size v n xs := hown.alloc _
  have hsz' : ((w0.alloc (.cells news.toArray e)).drewN k).heap.size = w0.heap.size + 1 := by show (w0.alloc _).heap.size = _; simp
  have hbb : (n + m) * bytes ≤ 1000000000 * 1000 := Nat.mul_le_mul hn hb
  refine wp_append_own _ s x t ho base e i0 z size bytes ht hi hz0 hz1 hz2 hzs hsz v n _ hs hown' ⟨w0.heap.size, 0, none⟩ m c news hx hm ?_ h1 (by unfold maxLen; omega) (by omega) (by omega) ?_
  · intro j u hj
    have hadd : (⟨w0.heap.size, 0, none⟩ : Addr).add j = ⟨w0.heap.size, j, none⟩ := by unfold Addr.add; split <;> simp_all
    have hh : ((w0.alloc (.cells news.toArray e)).drewN k).heap[w0.heap.size]? = some (.cells news.toArray e (0, 0)) := heap_alloc_new w0 _
    rw [hadd, cell_of_row _ _ j _ e (0, 0) hh]
    simpa using hj
  · intro v' w' h1 h2 _
    have hg0 : w0.grownBy w' v.ownBlock := grownBy_trans (b := (w0.alloc (.cells news.toArray e)).drewN k) (grownBy_drewN (World.grownBy_alloc w0 _ _) k) h2
    exact h v' w' ⟨h1, below_grown hown hg0 hbase, hg0⟩

theorem wpList_append_lit {P : Program} {ops : Array Oper} {rest : List Oper} {o : Oper} {a : Act} {w : World} {Q : Exit → Act → World → Prop} (hg : o.guard = none) (s x : Operand) (t e : TypeId)
    (ho : o.op = .call { callee := .builtin .append, args := #[s, x], argTypes := #[t, t] }) (ht : P.underlying t = some (.slice e))
    {z : Value} {size bytes : Nat} (hi : (P.info? e).map (fun i => (i.zero, i.size, i.bytes)) = some (some z, size, bytes)) (hzs : z.cells.size = size) (hsz : 0 < size) (base : Nat) (w0 : World) (news : List Value) (m : Nat) (hm : news.length = m * size)
    (v : Value) (n : Nat) (xs : List Value) (hs : a.eval s = v) (hown : w0.ownsRow base e size v n xs) (hn : n + m ≤ 1000000000) (hb : bytes ≤ 1000) (hbase : base ≤ w0.heap.size)
    {C : Array Value} {k : Nat} (hC : C = news.toArray) (h1 : ∀ u ∈ news, u.oneCell' = true) (hw : w = (w0.alloc (.cells C e)).drewN k)
    (c : Nat) (hx : a.eval x = .slice (some ⟨w0.heap.size, 0, none⟩) m c)
    (h : ∀ v' w', AppendedV base e size w0 v (n + m) (xs ++ news) v' w' → wpList P ops Q rest (a.put o.dst v') w') : wpList P ops Q (o :: rest) a w :=
  wpList_plain hg fun _ hK => wp_append_lit s x t e ho ht hi hzs hsz base w0 news m hm v n xs hs hown hn hb hbase hC h1 hw c hx fun v' w' h2 => hK _ _ (h v' w' h2)

/-- the cells of words. -/
def strCells (ws : List (List UInt8)) : List Value := ws.map fun x => .string ⟨x.toArray⟩
theorem strCells_length (ws : List (List UInt8)) : (strCells ws).length = ws.length := by simp [strCells]
theorem strCells_app (a b : List (List UInt8)) : strCells (a ++ b) = strCells a ++ strCells b := by simp [strCells]
theorem strCells_one (ws : List (List UInt8)) : ∀ v ∈ strCells ws, v.oneCell' = true := by
  intro v hv
  simp only [strCells, List.mem_map] at hv
  obtain ⟨x, _, rfl⟩ := hv
  rfl

/-- the words ws lie where a slice with address a reads. -/
def Ss (w : World) (a : Option Addr) (ws : List (List UInt8)) : Prop :=
  ws = [] ∨ ∃ b off, a = some ⟨b, off, none⟩ ∧ b < w.heap.size ∧ ∀ j (h : j < ws.length), w.cell? ⟨b, off + j, none⟩ = some (.string ⟨ws[j].toArray⟩)

theorem Ss.below {w w' : World} {a : Option Addr} {ws : List (List UInt8)} (h : Ss w a ws) {B : Nat} (hb : Below B w w') (hB : w.heap.size ≤ B) : Ss w' a ws := by
  rcases h with h | ⟨b, off, ha, hlt, hc⟩
  · exact Or.inl h
  · exact Or.inr ⟨b, off, ha, Nat.lt_of_lt_of_le hlt hb.size, fun j hj => (hb.cell (by show b < B; omega)).trans (hc j hj)⟩

theorem Ss.block {w : World} {g : Nat} {ws : List (List UInt8)} {C : Array Value} {e : TypeId} {fr : Nat × Nat} (h : w.heap[g]? = some (.cells C e fr)) (hC : C.toList.take ws.length = strCells ws) : Ss w (some ⟨g, 0, none⟩) ws := by
  refine Or.inr ⟨g, 0, rfl, (Array.getElem?_eq_some_iff.1 h).1, fun j hj => ?_⟩
  rw [cell_of_row _ _ _ _ _ _ h, Nat.zero_add]
  have h2 : (strCells ws)[j]? = some (.string ⟨ws[j].toArray⟩) := by simp [strCells, hj]
  rw [← hC, List.getElem?_take, if_pos hj] at h2
  simpa using h2

theorem Ss.own {w : World} {base e n : Nat} {ws : List (List UInt8)} {a : Option Addr} {m c : Nat} (h : w.ownsRow base e 1 (.slice a m c) n (strCells ws)) : Ss w a ws := by
  rcases h.2 with ⟨hv, h0⟩ | ⟨g, cap, cur, hv, _, hg, _, _, _, htk⟩
  · left; have := h.1; rw [strCells_length, h0] at this; simpa using this
  · cases hv
    have hn : ws.length = n := by have := h.1; rw [strCells_length] at this; simpa using this
    exact Ss.block hg (by rw [hn]; simpa using htk)

/-- a piece of a text, as bytes. -/
theorem extract_mk (s : ByteArray) (i j : Nat) : s.extract i j = ⟨((s.data.toList.drop i).take (j - i)).toArray⟩ := by
  apply ByteArray.ext
  apply Array.toList_inj.1
  rw [Lib.extract_data]

end Go.Proofs.YtfdkafmomkkapaaGreatDoor
