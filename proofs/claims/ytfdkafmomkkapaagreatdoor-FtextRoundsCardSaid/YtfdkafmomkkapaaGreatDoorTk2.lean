/- Tools: puts in memory. -/
import Derived.Test.YtfdkafmomkkapaaGreatDoorTk
import Derived.Test.YtfdkafmomkkapaaGreatDoorPl2
namespace Go.Proofs.YtfdkafmomkkapaaGreatDoor
open Go.RowKit Go.Lib

theorem below_step {B : Nat} {w wx w2 : World} (h : Below B w wx) (hB : B ≤ w.heap.size) (k : Below wx.heap.size wx w2) : Below B w w2 :=
  h.trans (k.mono (Nat.le_trans hB h.size))
theorem below_keep {w w' : World} (hb : Below w.heap.size w w') {p : Addr} {v : Value} (h : w.cell? p = some v) : w'.cell? p = some v :=
  (hb.cell (World.block_lt_of_cell? _ _ h)).trans h
theorem below_heap {w w' : World} (hb : Below w.heap.size w w') {g : Nat} {o : Obj} (h : w.heap[g]? = some o) : w'.heap[g]? = some o :=
  (hb.block g (Array.getElem?_eq_some_iff.1 h).1).trans h

/-- a string that is handed back. -/
def StrR (w : World) (l : List UInt8) (e : Ending) (w' : World) : Prop := e = .returned (.string ⟨l.toArray⟩) ∧ Below w.heap.size w w'

/-- one put in memory: at block b from cell o on. -/
def Put1 (w : World) (b o : Nat) (p : Int × List UInt8) : Prop :=
  w.cell? ⟨b, o, none⟩ = some (.int .i64 p.1) ∧ -9223372036854775808 ≤ p.1 ∧ p.1 ≤ 9223372036854775807 ∧
  ∃ da c, w.cell? ⟨b, o + 1, none⟩ = some (.slice da p.2.length c) ∧ p.2.length ≤ c ∧ p.2.length ≤ maxLen ∧ Bs w da p.2

/-- the puts l lie where a slice with address a reads. -/
def Ps (w : World) (a : Option Addr) (l : List (Int × List UInt8)) : Prop :=
  l = [] ∨ ∃ b off, a = some ⟨b, off, none⟩ ∧ ∀ j (h : j < l.length), Put1 w b (off + j * 2) l[j]

theorem Bs.keep {w w' : World} {a : Option Addr} {l : List UInt8} (h : Bs w a l) (hb : Below w.heap.size w w') : Bs w' a l := h.below hb (Nat.le_refl _)
theorem Put1.keep {w w' : World} {b o : Nat} {p : Int × List UInt8} (h : Put1 w b o p) (hb : Below w.heap.size w w') : Put1 w' b o p := by
  obtain ⟨h1, h2, h3, da, c, h4, h5, h6, h7⟩ := h
  exact ⟨below_keep hb h1, h2, h3, da, c, below_keep hb h4, h5, h6, h7.keep hb⟩
theorem Ps.keep {w w' : World} {a : Option Addr} {l : List (Int × List UInt8)} (h : Ps w a l) (hb : Below w.heap.size w w') : Ps w' a l := by
  rcases h with h | ⟨b, off, ha, hc⟩
  · exact Or.inl h
  · exact Or.inr ⟨b, off, ha, fun j hj => (hc j hj).keep hb⟩
theorem Below.of_alloc (w : World) (o : Obj) : Below w.heap.size w (w.alloc o) := (Below.refl _ _).alloc (Nat.le_refl _) o

theorem str_eq {b : ByteArray} {l : List UInt8} (h : b.data.toList = l) : Ending.returned (.string b) = .returned (.string ⟨l.toArray⟩) := by
  have : b = ⟨l.toArray⟩ := by apply ByteArray.ext; apply Array.toList_inj.1; rw [h]
  rw [this]
theorem str_val {b : ByteArray} {l : List UInt8} (h : b.data.toList = l) : Value.string b = .string ⟨l.toArray⟩ := by
  have : b = ⟨l.toArray⟩ := by apply ByteArray.ext; apply Array.toList_inj.1; rw [h]
  rw [this]
theorem app_mk (a b : List UInt8) : (⟨a.toArray⟩ : ByteArray) ++ ⟨b.toArray⟩ = ⟨(a ++ b).toArray⟩ := by
  apply ByteArray.ext
  rw [ByteArray.data_append]
  simp

theorem own_keep {w w' : World} {base e size n : Nat} {v : Value} {xs : List Value} (h : w.ownsRow base e size v n xs) (hb : Below w.heap.size w w') : w'.ownsRow base e size v n xs :=
  h.kept (row := none) ⟨hb.os, hb.tape, hb.output, hb.size, fun k hk _ => hb.block k hk⟩ (by cases v.ownBlock <;> simp)
theorem own_base {w : World} {base base' e size n : Nat} {v : Value} {xs : List Value} (h : w.ownsRow base e size v n xs) (hb : base' ≤ base) : w.ownsRow base' e size v n xs := by
  refine ⟨h.1, ?_⟩
  rcases h.2 with h | ⟨g, cap, cur, hv, hg, r⟩
  · exact .inl h
  · exact .inr ⟨g, cap, cur, hv, by omega, r⟩
/-- a literal's block of values, as an owned row. -/
theorem own_litV {w : World} {base e : Nat} {C : Array Value} (xs : List Value) (hC : C = xs.toArray) (hb : base ≤ w.heap.size) (hr : xs.length ≤ maxLen) :
    (w.alloc (.cells C e)).ownsRow base e 1 (.slice (some ⟨w.heap.size, 0, none⟩) xs.length xs.length) xs.length xs := by
  subst hC
  exact ⟨by simp, .inr ⟨w.heap.size, xs.length, _, rfl, hb, heap_alloc_new w _, Nat.le_refl _, hr, by simp, by rw [List.take_of_length_le (by simp)]⟩⟩

theorem step_append_lit {P : Program} {ops : Array Oper} {o : Oper} {a : Act} {w : World} {K : Act → World → Prop} {Q : Exit → Act → World → Prop} {E : Prop} (hg : o.guard = none) (s x : Operand) (t e : TypeId)
    (ho : o.op = .call { callee := .builtin .append, args := #[s, x], argTypes := #[t, t] }) (ht : P.underlying t = some (.slice e))
    {z : Value} {size bytes : Nat} (hi : (P.info? e).map (fun i => (i.zero, i.size, i.bytes)) = some (some z, size, bytes)) (hzs : z.cells.size = size) (hsz : 0 < size) (base : Nat) (w0 : World) (news : List Value) (m : Nat) (hm : news.length = m * size)
    (v : Value) (n : Nat) (xs : List Value) (hs : a.eval s = v) (hown : w0.ownsRow base e size v n xs) (hn : n + m ≤ 1000000000) (hb : bytes ≤ 1000) (hbase : base ≤ w0.heap.size)
    {C : Array Value} {k : Nat} (hC : C = news.toArray) (h1 : ∀ u ∈ news, u.oneCell' = true) (hw : w = (w0.alloc (.cells C e)).drewN k)
    (c : Nat) (hx : a.eval x = .slice (some ⟨w0.heap.size, 0, none⟩) m c)
    (h : ∀ v' w', AppendedV base e size w0 v (n + m) (xs ++ news) v' w' → K (a.put o.dst v') w') :
    if Region.wanted o (yielded ops a.tmps) = true then Oper.wp P o a w K Q else E := by
  have hw' : Region.wanted o (yielded ops a.tmps) = true := by simp [Region.wanted, hg]
  rw [if_pos hw']
  exact wp_append_lit s x t e ho ht hi hzs hsz base w0 news m hm v n xs hs hown hn hb hbase hC h1 hw c hx h

theorem below_on {B : Nat} {w wx w2 : World} (k : Below wx.heap.size wx w2) (h : Below B w wx) (hB : B ≤ w.heap.size) : Below B w w2 := below_step h hB k
theorem own_on {w w' : World} (hb : Below w.heap.size w w') {base e size n : Nat} {v : Value} {xs : List Value} (h : w.ownsRow base e size v n xs) : w'.ownsRow base e size v n xs := own_keep h hb
theorem size_on {w w' : World} (hb : Below w.heap.size w w') {B : Nat} (h : B ≤ w.heap.size) : B ≤ w'.heap.size := Nat.le_trans h hb.size

theorem below_in {B C : Nat} {w wx w2 : World} (k : Below C wx w2) (h : Below B w wx) (hB : B ≤ C) : Below B w w2 := h.trans (k.mono hB)
theorem cell_in {C : Nat} {wx w2 : World} (k : Below C wx w2) {p : Addr} {v : Value} (h : wx.cell? p = some v) (hp : p.block < C) : w2.cell? p = some v := (k.cell hp).trans h

theorem own_ne {w : World} {base e size n : Nat} {v : Value} {xs : List Value} (h : w.ownsRow base e size v n xs) {g : Nat} (hg : w.heap.size ≤ g) : some g ≠ v.ownBlock := by
  intro e
  have := (h.lt g e.symm).2
  omega
theorem Bs.grown {w w' : World} {base : Nat} (hg : Below base w w') {a : Option Addr} {l : List UInt8} (h : Bs w a l) (hb : l = [] ∨ ∀ b off, a = some ⟨b, off, none⟩ → b < base) : Bs w' a l := by
  rcases h with h | ⟨b, off, ha, hlt, hc⟩
  · exact Or.inl h
  · rcases hb with hb | hb
    · exact Or.inl hb
    · exact Or.inr ⟨b, off, ha, Nat.lt_of_lt_of_le hlt hg.size, fun j hj => (hg.cell (by exact hb b off ha)).trans (hc j hj)⟩

theorem Bs.on {w w' : World} (hb : Below w.heap.size w w') {a : Option Addr} {l : List UInt8} (h : Bs w a l) : Bs w' a l := h.keep hb
theorem Ps.on {w w' : World} (hb : Below w.heap.size w w') {a : Option Addr} {l : List (Int × List UInt8)} (h : Ps w a l) : Ps w' a l := h.keep hb

end Go.Proofs.YtfdkafmomkkapaaGreatDoor
