/- Tools: append(s, make([]byte, k)...) onto a row of the call's own. -/
import Derived.Test.YtfdkafmomkkapaaDoorTk2
import Derived.Lib.AppendZerosOnto
import Derived.Laws.CopyOwn
namespace Go.Proofs.YtfdkafmomkkapaaDoor
open Go.RowKit Go.Lib

theorem zeroCells_bytes (k : Nat) : Builtin.zeroCells #[.int .u8 0] k = (Lib.byteCells (List.replicate k (0 : UInt8))).toArray := by
  apply Array.toList_inj.1
  simp only [Builtin.zeroCells, Lib.byteCells]
  apply List.ext_getElem
  · simp
  · intro i h1 h2
    have e : i % 1 = 0 := Nat.mod_one i
    simp [e]

theorem append_zeros_own {P : Program} (w : World) (t tn ty e : TypeId) (kq kn : IntKind) (ht : P.underlying t = some (.slice e)) (htn : P.underlying tn = some (.int kn))
    (hi : (P.info? e).map (fun i => (i.zero, i.size, i.bytes)) = some (some (.int .u8 0), 1, 1)) (base : Nat) (v : Value) (n : Nat) (l : List UInt8) (hown : w.ownsRow base e 1 v n (Lib.byteCells l)) (k : Nat)
    (hn : n + k ≤ 1000000000) (hbase : base ≤ w.heap.size) :
    ∃ v' w', (Builtin.append_ #[t, tn] ty #[v, .int kq k]).run P w = .ok v' w' ∧ AppendedV base e 1 w v (n + k) (Lib.byteCells (l ++ List.replicate k (0 : UInt8))) v' w' := by
  obtain ⟨i, hi0, hz, hz1, hz2⟩ := info_parts hi
  have hw : IntKind.i64.wrap (k : Int) = k := by rw [IntKind.wrap_i64]; omega
  have hneg : ¬ ((k : Int) < 0) := by omega
  have h48i : ¬ (281474976710656 < (k : Int)) := by omega
  have hln : l.length = n := by have := hown.1; simpa [Lib.byteCells] using this
  have hlen : (Lib.byteCells (l ++ List.replicate k (0 : UInt8))).length = (n + k) * 1 := by rw [byteCells_length, List.length_append, List.length_replicate, hln]; omega
  rcases hown.2 with ⟨rfl, rfl⟩ | ⟨g, cap, cur, rfl, hbg, hg, hnc, hcm, hcs, htake⟩
  · have hl0 : l = [] := List.eq_nil_of_length_eq_zero hln
    subst hl0
    by_cases hk : k = 0
    · subst hk
      refine ⟨.slice none 0 0, w, ?_, World.ownsRow_nil w base e 1, Below.refl _ _, World.grownBy.refl w _⟩
      simp [Builtin.append_, run_underlying ht, run_underlying htn, sizeOf, typeInfo, hi0, asInt, asIntOf, IntKind.wrap_i64]
    · have hr := run_append_nil_zeros (P := P) w t tn ty e i (.int .u8 0) kq kn ht htn hi0 hz k (by omega) (by omega) (by omega) (by rw [hz2]; omega)
      simp only [Nat.zero_add] at hlen ⊢
      refine ⟨_, _, hr, ⟨hlen, .inr ⟨w.heap.size, _, _, rfl, hbase, heap_alloc_new w.drew _, grownCap_ge w k 0 e, grownCap_le_maxLen w k 0 e (by unfold maxLen; omega), ?_, ?_⟩⟩, ?_, ?_⟩
      · have := grownCap_ge w k 0 e
        simp only [Array.size_append, size_zeroCells, Value.cells]
        simp; omega
      · simp only [Value.cells, zeroCells_bytes, List.nil_append]
        rw [Array.toList_append, List.take_append_of_le_length (by simp [Lib.byteCells])]
        simp [Lib.byteCells]
      · exact ((Below.refl _ w).drew).alloc hbase _
      · exact ⟨rfl, rfl, rfl, by simp, fun j hj _ => heap_alloc_old w.drew _ hj⟩
  · by_cases hroom : n + k ≤ cap
    · have hfit : n + k ≤ cur.size := by rw [hcs]; omega
      have h1 : ∀ u ∈ Lib.byteCells (List.replicate k (0 : UInt8)), u.oneCell' = true := by
        intro u hu
        simp only [Lib.byteCells, List.mem_map] at hu
        obtain ⟨x, _, rfl⟩ := hu
        rfl
      have hst := run_storeCells_at P g n e (Lib.byteCells (List.replicate k (0 : UInt8))) 0 cur w hg (by rw [byteCells_length, List.length_replicate]; simpa using hfit) h1
      simp only [Nat.add_zero] at hst
      have hr : (Builtin.append_ #[t, tn] ty #[.slice (some ⟨g, 0, none⟩) n cap, .int kq k]).run P w = .ok (.slice (some ⟨g, 0, none⟩) (n + k) cap) (w.setRow g (cur.toList.take n ++ Lib.byteCells (List.replicate k (0 : UInt8)) ++ cur.toList.drop (n + (Lib.byteCells (List.replicate k (0 : UInt8))).length)).toArray) := by
        by_cases hk : k = 0
        · subst hk
          have hs0 : storeCells ⟨g, n, none⟩ [] = (pure () : Sem Unit) := rfl
          simp [Builtin.append_, run_underlying ht, run_underlying htn, sizeOf, typeInfo, hi0, hz1, hz2, asInt, asIntOf, IntKind.wrap_i64, hnc, Addr.add_lit, Lib.byteCells] at hst ⊢
          simp [hst]
        · simp [Builtin.append_, run_underlying ht, run_underlying htn, sizeOf, typeInfo, zeroValue, hi0, hz, hz1, hz2, asInt, asIntOf, hw, hneg, h48i, hroom, Addr.add_lit, hk, Value.cells, zeroCells_bytes, hst]
      refine ⟨_, _, hr, ⟨hlen, .inr ⟨g, cap, _, rfl, hbg, setRow_heap w g cur _ e _ hg, hroom, hcm, ?_, ?_⟩⟩, ?_, ?_⟩
      · simp only [List.size_toArray, List.length_append, List.length_take, List.length_drop, Array.length_toList, byteCells_length, List.length_replicate]
        omega
      · have hx : cur.toList.take n = Lib.byteCells l := by rw [← htake, Nat.mul_one]
        rw [hx, ← byteCells_app, ← hlen]
        exact List.take_left
      · exact below_setRow (Below.refl _ _) hbg _
      · exact ⟨rfl, rfl, rfl, by simp [World.setRow], fun j _ hj => setRow_other w g j _ (fun e => hj (by simp [Value.ownBlock, e]))⟩
    · have hcells : ∀ j u, (Lib.byteCells l)[j]? = some u → w.drew.cell? ((⟨g, 0, none⟩ : Addr).add j) = some u := hown.cells (g := g) rfl
      have hold := run_firstCells_some (P := P) w.drew i.size n ⟨g, 0, none⟩ n cap (Lib.byteCells l) (by rw [hz1, byteCells_length, hln]; omega) hcells
      have hr := run_append_grow_zeros (P := P) w t tn ty e i (.int .u8 0) kq kn ht htn hi0 hz (some ⟨g, 0, none⟩) n cap (Lib.byteCells l) hold k (by omega) (by omega) (by omega) (by omega) (by rw [hz2]; omega)
        (by rw [hz2]; exact growslice_fits (bytes := 1) (by omega) (by omega))
      have hge := grownCap_ge w (n + k) cap e
      refine ⟨_, _, hr, ⟨hlen, .inr ⟨w.heap.size, _, _, rfl, hbase, heap_alloc_new w.drew _, hge, grownCap_le_maxLen w (n + k) cap e (by unfold maxLen; omega), ?_, ?_⟩⟩, ?_, ?_⟩
      · simp only [Array.size_append, size_zeroCells, Value.cells]
        simp [byteCells_length, hln]; omega
      · simp only [Value.cells, zeroCells_bytes]
        rw [Array.toList_append, Array.toList_append, ← byteCells_app, List.take_append_of_le_length (by simp [Lib.byteCells, hln])]
        rw [List.take_of_length_le (by simp [Lib.byteCells, hln])]
      · exact ((Below.refl _ w).drew).alloc hbase _
      · exact ⟨rfl, rfl, rfl, by simp, fun j hj _ => heap_alloc_old w.drew _ hj⟩

theorem append_bs_own {P : Program} (w : World) (t ty e : TypeId) (ht : P.underlying t = some (.slice e)) (hi : (P.info? e).map (fun i => (i.zero, i.size, i.bytes)) = some (some (.int .u8 0), 1, 1)) (base : Nat)
    (v : Value) (n : Nat) (l : List UInt8) (hown : w.ownsRow base e 1 v n (Lib.byteCells l)) (pa : Option Addr) (m c : Nat) (r : List UInt8) (hm : r.length = m) (hr : Bs w pa r)
    (hn : n + m ≤ 1000000000) (hbase : base ≤ w.heap.size) :
    ∃ v' w', (Builtin.append_ #[t, t] ty #[v, .slice pa m c]).run P w = .ok v' w' ∧ AppendedV base e 1 w v (n + m) (Lib.byteCells (l ++ r)) v' w' := by
  obtain ⟨i, hi0, hz, hz1, hz2⟩ := info_parts hi
  have some_ : ∀ a : Addr, pa = some a → (∀ j u, (Lib.byteCells r)[j]? = some u → w.cell? (a.add j) = some u) → ∃ v' w', (Builtin.append_ #[t, t] ty #[v, .slice pa m c]).run P w = .ok v' w' ∧ AppendedV base e 1 w v (n + m) (Lib.byteCells (l ++ r)) v' w' := by
    intro a ha hc
    subst ha
    have h1 : ∀ u ∈ Lib.byteCells r, u.oneCell' = true := by
      intro u hu
      simp only [Lib.byteCells, List.mem_map] at hu
      obtain ⟨x, _, rfl⟩ := hu
      rfl
    obtain ⟨v', w', h2, h3, h4, _⟩ := run_append_own (P := P) w base t ty e i (.int .u8 0) 1 1 ht hi0 hz hz1 hz2 rfl (by decide) v n (Lib.byteCells l) hown a m c (Lib.byteCells r) (by rw [byteCells_length, hm]; omega) hc h1 (by unfold maxLen; omega) (by omega) hbase
    exact ⟨v', w', h2, by rw [byteCells_app]; exact h3, below_grown hown h4 hbase, h4⟩
  rcases hr with rfl | ⟨b, off, rfl, hb, hc⟩
  · obtain rfl : 0 = m := hm
    cases pa with
    | some a => exact some_ a rfl fun j u hu => by simp [Lib.byteCells] at hu
    | none =>
      refine ⟨v, w, ?_, by simpa using hown, Below.refl _ _, World.grownBy.refl w _⟩
      rcases hown.2 with ⟨rfl, rfl⟩ | ⟨g, cap, cur, rfl, _, _, hnc, _⟩
      · simp [Builtin.append_, run_underlying ht, sizeOf, typeInfo, hi0, Builtin.lenOf, Builtin.firstCells]
      · simp [Builtin.append_, run_underlying ht, sizeOf, typeInfo, hi0, Builtin.lenOf, Builtin.firstCells, hnc, storeCells]
  · refine some_ _ rfl fun j u hu => ?_
    have hj : j < r.length := by
      rcases Nat.lt_or_ge j r.length with h | h
      · exact h
      · rw [List.getElem?_eq_none (by rw [byteCells_length]; exact h)] at hu; cases hu
    have ha : (⟨b, off, none⟩ : Addr).add j = ⟨b, off + j, none⟩ := by unfold Addr.add; split <;> simp_all
    rw [ha, hc j hj, ← hu]
    simp [Lib.byteCells, hj]
theorem wpList_append_bs {P : Program} {ops : Array Oper} {rest : List Oper} {o : Oper} {a : Act} {w : World} {Q : Exit → Act → World → Prop} (hg : o.guard = none) (s x : Operand) (t e : TypeId)
    (ho : o.op = .call { callee := .builtin .append, args := #[s, x], argTypes := #[t, t] }) (ht : P.underlying t = some (.slice e))
    (hi : (P.info? e).map (fun i => (i.zero, i.size, i.bytes)) = some (some (.int .u8 0), 1, 1)) (base : Nat)
    (v : Value) (n : Nat) (l : List UInt8) (hs : a.eval s = v) (hown : w.ownsRow base e 1 v n (Lib.byteCells l)) (pa : Option Addr) (m c : Nat) (r : List UInt8) (hx : a.eval x = .slice pa m c) (hm : r.length = m) (hr : Bs w pa r)
    (hn : n + m ≤ 1000000000) (hbase : base ≤ w.heap.size)
    (h : ∀ v' w', AppendedV base e 1 w v (n + m) (Lib.byteCells (l ++ r)) v' w' → wpList P ops Q rest (a.put o.dst v') w') : wpList P ops Q (o :: rest) a w := by
  obtain ⟨v', w', h1, h2⟩ := append_bs_own (P := P) w t o.type e ht hi base v n l hown pa m c r hm hr hn hbase
  exact Lib.wpList_append_run w hg s x t t ho v (.slice pa m c) hs hx v' w' h1 (h v' w' h2)
theorem wpList_append_zeros {P : Program} {ops : Array Oper} {rest : List Oper} {o : Oper} {a : Act} {w : World} {Q : Exit → Act → World → Prop} (hg : o.guard = none) (s x : Operand) (t tn e : TypeId)
    (ho : o.op = .call { callee := .builtin .append, args := #[s, x], argTypes := #[t, tn] }) (ht : P.underlying t = some (.slice e)) (kn : IntKind) (htn : P.underlying tn = some (.int kn))
    (hi : (P.info? e).map (fun i => (i.zero, i.size, i.bytes)) = some (some (.int .u8 0), 1, 1)) (base : Nat)
    (v : Value) (n : Nat) (l : List UInt8) (hs : a.eval s = v) (hown : w.ownsRow base e 1 v n (Lib.byteCells l)) (kq : IntKind) (k : Nat) (z : Int) (hz : z = (k : Int)) (hx : a.eval x = .int kq z)
    (hn : n + k ≤ 1000000000) (hbase : base ≤ w.heap.size)
    (h : ∀ v' w', AppendedV base e 1 w v (n + k) (Lib.byteCells (l ++ List.replicate k (0 : UInt8))) v' w' → wpList P ops Q rest (a.put o.dst v') w') : wpList P ops Q (o :: rest) a w := by
  subst hz
  obtain ⟨v', w', h1, h2⟩ := append_zeros_own (P := P) w t tn o.type e kq kn ht htn hi base v n l hown k hn hbase
  exact Lib.wpList_append_run w hg s x t tn ho v (.int kq (k : Int)) hs hx v' w' h1 (h v' w' h2)
theorem own_empty (w : World) (e : TypeId) : (w.alloc (.cells #[] e)).ownsRow w.heap.size e 1 (.slice (some ⟨w.heap.size, 0, none⟩) 0 0) 0 (Lib.byteCells []) :=
  own_lit (base := w.heap.size) (e := e) (C := #[]) [] rfl (Nat.le_refl _) (by decide)
theorem own_form {w : World} {base e size n : Nat} {v : Value} {xs : List Value} (h : w.ownsRow base e size v n xs) : ∃ pa c, v = .slice pa n c ∧ n ≤ c := by
  rcases h.2 with ⟨rfl, rfl⟩ | ⟨g, cap, cur, rfl, _, _, hc, _⟩
  · exact ⟨none, 0, rfl, Nat.le_refl _⟩
  · exact ⟨_, cap, rfl, hc⟩
end Go.Proofs.YtfdkafmomkkapaaDoor
