/- Lemmas and walks: Walks: a batch of any transactions is done (txn.Done). Printed by mkMg.py. Walks: all that wait is flushed (store.Flush). Printed by mkMh.py. Walks: the store's commit beside others that wait. A client asks for a commit beside others that wait; it is told of it. Printed by mkHf.py. A client's begin, at any client's cells. Printed by mkHe.py. Walks: the first client's begin, as a step. A schedule with clients: Add; a client begins, writes, asks to commit, asks again, is told, beside others that wait. -/
import Derived.Test.YtliicpedddcfiaaGreatAg
import Derived.Test.YtliicpedddcfiaaGreatAh
import Derived.Test.YtliicpedddcfiaaGreatAi
import Derived.Test.YtliicpedddcfiaaGreatAj
import Derived.Test.YtliicpedddcfiaaGreatAk
namespace Go.Proofs.YtliicpedddcfiaaGreat
open Go.RowKit Go.Lib

theorem getL_del (L : List (Int × Value)) {k j : Int} (h : j ≠ k) : getL (delL L k) j = getL L j := by
  induction L with
  | nil => rfl
  | cons p l ih =>
    simp only [delL]
    by_cases hk : k = p.1
    · rw [if_pos hk]
      simp only [getL]
      rw [if_neg (fun e => h (by rw [e, hk]))]
    · rw [if_neg hk]
      simp only [getL, ih]
theorem wpList_append_ints {ops : Array Oper} {rest : List Oper} {o : Oper} {a : Act} {w : World} {Q : Exit → Act → World → Prop} (hgd : o.guard = none) (s x : Operand)
    (ho : o.op = .call { callee := .builtin .append, args := #[s, x], argTypes := #[81, 81] }) (z b c n : Nat) (l : List Int) (hl : l.length = n) (hn0 : 0 < n) (hn : n ≤ 1000) (hs : a.eval s = .slice (some ⟨z, 0, none⟩) 0 0) (hz : w.heap[z]? = some (.cells #[] 3 (0, 0)))
    (hx : a.eval x = .slice (some ⟨b, 0, none⟩) n c) (hb : ∀ i (h : i < l.length), w.cell? ⟨b, i, none⟩ = some (.int .i64 l[i]))
    (h : ∀ g cap w', Chg [z] w w' → w'.ownsRow z 3 1 (.slice (some ⟨g, 0, none⟩) n cap) n (l.map encZ) → wpList Tryz.prog ops Q rest (a.put o.dst (.slice (some ⟨g, 0, none⟩) n cap)) w') : wpList Tryz.prog ops Q (o :: rest) a w := by
  obtain ⟨i, hi0, hz0, hz1, hz2⟩ := info_parts inf3
  have hown : w.ownsRow z 3 1 (.slice (some ⟨z, 0, none⟩) 0 0) 0 [] := ⟨rfl, Or.inr ⟨z, 0, #[], rfl, Nat.le_refl _, hz, Nat.le_refl _, by unfold maxLen; omega, rfl, rfl⟩⟩
  refine wpList_append_lies w hgd s x 81 ho z 3 i _ 1 8 ty62 hi0 hz0 hz1 hz2 rfl (by decide) _ 0 [] hs hown ⟨b, 0, none⟩ n c (l.map encZ) hx (by simp [hl]) ?_ ?_ hn0 (by unfold maxLen; omega) (by omega) (Nat.le_of_lt (heap_lt hz)) _ rfl ?_
  · intro j u hu
    rw [add_lit, Nat.zero_add]
    have hj : j < l.length := by
      have := List.getElem?_eq_some_iff.1 hu
      obtain ⟨h1, -⟩ := this
      simpa using h1
    have e : u = .int .i64 l[j] := by
      rw [List.getElem?_map, List.getElem?_eq_getElem hj] at hu
      exact (Option.some.inj hu).symm
    rw [e]
    exact hb j hj
  · intro u hu
    obtain ⟨k, -, rfl⟩ := List.mem_map.1 hu
    rfl
  · intro g cap w' h1 h3 _ _
    rw [Nat.zero_add, List.nil_append] at h1
    rw [Nat.zero_add]
    exact h g cap w' (Chg.of_grown h3) h1
set_option maxRecDepth 100000 in
theorem iclone_many (w : World) {g c n : Nat} {l : List Int} (hl : l.length = n) (hn0 : 0 < n) (hn : n ≤ 1000) (h0 : ∀ i (h : i < l.length), w.cell? ⟨g, i, none⟩ = some (.int .i64 l[i])) : Calls Tryz.prog 97 #[.slice (some ⟨g, 0, none⟩) n c] w fun e w' =>
    ∃ g' c', e = .returned (.slice (some ⟨g', 0, none⟩) n c') ∧ Chg [] w w' ∧ w'.ownsRow w.heap.size 3 1 (.slice (some ⟨g', 0, none⟩) n c') n (l.map encZ) := by
  have hn' : ∀ w, (binOp .eql 81 (.slice (some ⟨g, 0, none⟩) n c) (.slice none 0 0)).run Tryz.prog w = .ok (.bool false) w := fun w => Lib.run_eql_slice_nil w 81 3 _ _ _ 0 0 ty62
  have k0 : Chg [] w (w.alloc (.cells #[] 3)) := Chg.alloc w _
  have hb := Lib.hid (fun i (h : i < l.length) => k0.cell (h0 i h) (by simp))
  have hz := heap_new w (.cells #[] 3)
  clear h0
  go_enter Tryz.func97, Tryz.ntmps97
  go_wp2_with (first | (at_builtin; refine wpList_append_ints rfl (.tmp 5) (.tmp 6) rfl w.heap.size g c n l hl hn0 hn rfl hz rfl hb.out ?_; intro g2 c2 w2 k2 o2))
  go_ret
  exact ⟨g2, c2, rfl, k0.trans k2 (fun x hx hlt => by simp at hx; omega), o2⟩
/-- a cell of an own row of ints. -/
theorem ints_cell {w : World} {lq n cq : Nat} {pq : Option Addr} {l : List Int} (h : w.ownsRow lq 3 1 (.slice pq n cq) n (l.map encZ)) (hl : l.length = n) (hn : 0 < n) : ∃ g, pq = some ⟨g, 0, none⟩ ∧ n ≤ cq ∧ lq ≤ g ∧ (∃ cs, w.heap[g]? = some (.cells cs 3 (0, 0))) ∧ ∀ i (h : i < l.length), w.cell? ⟨g, i, none⟩ = some (.int .i64 l[i]) := by
  rcases h.2 with ⟨_, h0⟩ | ⟨gk, cap, cur, e, hA, hg, hc1, hc2, hc3, ht⟩
  · omega
  · injection e with e1 e2 e3
    refine ⟨gk, e1, by omega, hA, ⟨_, hg⟩, fun i hi => cell_is hg i ?_⟩
    have h1 : (l.map encZ)[i]? = some (.int .i64 l[i]) := by
      rw [List.getElem?_map, List.getElem?_eq_getElem hi]
      rfl
    rw [← ht, List.getElem?_take_of_lt (by omega), Array.getElem?_toList] at h1
    exact h1
/-- what of memory changes where a batch of many is done. -/
def CdN (lo M : Nat) (Ts : List Nat) (rb X rx : Nat) (w w' : World) : Prop := ∃ S, Chg S w w' ∧ ∀ x ∈ S, x < w.heap.size → x = M ∨ x ∈ Ts ∨ x = rb ∨ x = X ∨ x = rx ∨ (lo ≤ x ∧ ∃ cs, w.heap[x]? = some (.cells cs 247 (0, 0)))
theorem CdN.of_cd {lo M T rb X rx : Nat} {Ts : List Nat} {w w' : World} (h : Cd lo M T rb X rx w w') (hT : T ∈ Ts) : CdN lo M Ts rb X rx w w' := by
  obtain ⟨S, h1, h2⟩ := h
  refine ⟨S, h1, fun x hx hl => ?_⟩
  rcases h2 x hx hl with e | e | e | e | e | e
  · exact Or.inl e
  · exact Or.inr (Or.inl (e ▸ hT))
  · exact Or.inr (Or.inr (Or.inl e))
  · exact Or.inr (Or.inr (Or.inr (Or.inl e)))
  · exact Or.inr (Or.inr (Or.inr (Or.inr (Or.inl e))))
  · exact Or.inr (Or.inr (Or.inr (Or.inr (Or.inr e))))
theorem CdN.of_chg {lo M rb X rx : Nat} {Ts S : List Nat} {w w' : World} (h : Chg S w w') (hS : ∀ x ∈ S, x = M ∨ x = rb ∨ x = X ∨ x = rx) : CdN lo M Ts rb X rx w w' :=
  ⟨S, h, fun x hx _ => by rcases hS x hx with e | e | e | e <;> simp [e]⟩
theorem CdN.more {lo M rb X rx : Nat} {Ts Us : List Nat} {w w' : World} (h : CdN lo M Ts rb X rx w w') (hs : ∀ x ∈ Ts, x ∈ Us) : CdN lo M Us rb X rx w w' := by
  obtain ⟨S, h1, h2⟩ := h
  refine ⟨S, h1, fun x hx hl => ?_⟩
  rcases h2 x hx hl with e | e | e
  · exact Or.inl e
  · exact Or.inr (Or.inl (hs x e))
  · exact Or.inr (Or.inr e)
theorem CdN.trans {lo M rb X rx : Nat} {Ts : List Nat} {a b c : World} (h : CdN lo M Ts rb X rx a b) (k : CdN lo M Ts rb X rx b c) : CdN lo M Ts rb X rx a c := by
  obtain ⟨S, h1, h2⟩ := h
  obtain ⟨U, k1, k2⟩ := k
  refine ⟨S ++ U, (h1.mono (fun x hx _ => List.mem_append_left _ hx)).trans k1 (fun x hx _ => List.mem_append_right _ hx), fun x hx hlt => ?_⟩
  by_cases hT : x ∈ S
  · exact h2 x hT hlt
  · rcases List.mem_append.1 hx with h | h
    · exact absurd h hT
    · rcases k2 x h (Nat.lt_of_lt_of_le hlt h1.size) with e | e | e | e | e | ⟨e, cs, hh⟩
      · exact Or.inl e
      · exact Or.inr (Or.inl e)
      · exact Or.inr (Or.inr (Or.inl e))
      · exact Or.inr (Or.inr (Or.inr (Or.inl e)))
      · exact Or.inr (Or.inr (Or.inr (Or.inr (Or.inl e))))
      · exact Or.inr (Or.inr (Or.inr (Or.inr (Or.inr ⟨e, cs, by rw [← h1.block x hlt hT]; exact hh⟩))))
theorem CdN.size {lo M rb X rx : Nat} {Ts : List Nat} {w w' : World} (h : CdN lo M Ts rb X rx w w') : w.heap.size ≤ w'.heap.size := by
  obtain ⟨S, h1, -⟩ := h
  exact h1.size
theorem CdN.av {lo M rb X rx : Nat} {Ts : List Nat} {w : World} {S ts : List Nat} {csM csX : Array Value} {L1 L2 : List (Int × Value)} (hS : ∀ x ∈ S, x < w.heap.size → x = M ∨ x ∈ Ts ∨ x = rb ∨ x = X ∨ x = rx ∨ (lo ≤ x ∧ ∃ cs, w.heap[x]? = some (.cells cs 247 (0, 0))))
    (hM : w.heap[M]? = some (.cells csM 184 (0, 0))) (hT : ∀ T ∈ Ts, ∃ cs, w.heap[T]? = some (.cells cs 212 (0, 0))) (hX : w.heap[X]? = some (.cells csX 237 (0, 0))) (h1 : MapAt w rb L1) (h2 : MapAt w rx L2) (h : ∀ t ∈ ts, t ∉ [184, 212, 237, 247]) : Av w S ts := by
  intro x hx cs t fr hh ht
  have hn := h t ht
  rcases hS x hx (heap_lt hh) with rfl | e | rfl | rfl | rfl | ⟨-, cs2, h3⟩
  · rw [hM] at hh; cases hh; exact hn (by simp)
  · obtain ⟨cs2, h3⟩ := hT x e; rw [h3] at hh; cases hh; exact hn (by simp)
  · exact map_cells h1 hh rfl
  · rw [hX] at hh; cases hh; exact hn (by simp)
  · exact map_cells h2 hh rfl
  · rw [h3] at hh; cases hh; exact hn (by simp)
/-- the last time told behind j of them. -/
def lastN (a : Int) (xs : List Wt) : Nat → Int
  | 0 => a
  | j + 1 => (xs[j]?.map fun x => (x.k : Int)).getD a
theorem lastN_succ {a : Int} {xs : List Wt} {j : Nat} (h : j < xs.length) : lastN a xs (j + 1) = (xs[j]).k := by simp [lastN, h]
/-- the versions behind j of them. -/
def vsN (vs : Int → List (Int × List UInt8)) (xs : List Wt) (j : Nat) : Int → List (Int × List UInt8) := (xs.take j).foldl (fun vs x => applyV vs x.k (putsL x.L x.D)) vs
theorem vsN_succ {vs : Int → List (Int × List UInt8)} {xs : List Wt} {j : Nat} (h : j < xs.length) : vsN vs xs (j + 1) = applyV (vsN vs xs j) (xs[j]).k (putsL (xs[j]).L (xs[j]).D) := by
  unfold vsN
  rw [List.take_succ_eq_append_getElem h, List.foldl_append]
  rfl
theorem vsN_len (vs : Int → List (Int × List UInt8)) {xs : List Wt} (h : ∀ x ∈ xs, x.L.length ≤ 16) (c : Int) : ∀ j, j ≤ xs.length → (vsN vs xs j c).length ≤ (vs c).length + 16 * j
  | 0, _ => by simp [vsN]
  | j + 1, hj => by
    have ih := vsN_len vs h c j (by omega)
    rw [vsN_succ (by omega)]
    have h1 := applyV_len (vsN vs xs j) (xs[j]).k (putsL (xs[j]).L (xs[j]).D) c
    have h2 := h xs[j] (List.getElem_mem _)
    rw [putsL_length] at h1
    omega
/-- the book behind j of them. -/
def lbN (L : List (Int × Value)) (xs : List Wt) (j : Nat) : List (Int × Value) := (xs.take j).foldl (fun L x => delL L x.h) L
theorem lbN_succ {L : List (Int × Value)} {xs : List Wt} {j : Nat} (h : j < xs.length) : lbN L xs (j + 1) = delL (lbN L xs j) (xs[j]).h := by
  unfold lbN
  rw [List.take_succ_eq_append_getElem h, List.foldl_append]
  rfl
theorem mem_take_succ {α : Type} {l : List α} {j : Nat} (h : j < l.length) : l[j] ∈ l.take (j + 1) := by
  rw [List.take_succ_eq_append_getElem h]
  exact List.mem_append_right _ (List.mem_singleton.2 rfl)
theorem mem_take_more {α : Type} {l : List α} {j : Nat} {x : α} (h : j < l.length) (hx : x ∈ l.take j) : x ∈ l.take (j + 1) := by
  rw [List.take_succ_eq_append_getElem h]
  exact List.mem_append_left _ hx
theorem lbN_get {L : List (Int × Value)} {xs : List Wt} {k : Int} : ∀ j, j ≤ xs.length → (∀ x ∈ xs.take j, x.h ≠ k) → getL (lbN L xs j) k = getL L k
  | 0, _, _ => rfl
  | j + 1, hj, hn => by
    rw [lbN_succ (by omega), getL_del _ (fun e => hn xs[j] (mem_take_succ (by omega)) e.symm)]
    exact lbN_get j (by omega) (fun x hx => hn x (mem_take_more (by omega) hx))
/-- behind j of a batch. -/
structure DnN (w wr : World) (M X rx B rb r : Nat) (s : Gs) (xs : List Wt) (j : Nat) : Prop where
  mx : ∃ Lv', Mx wr M X rx B rb r { s with last := lastN s.last xs j, lastv := lastN s.lastv xs j, Lv := Lv', vs := vsN s.vs xs j, Lb := lbN s.Lb xs j } ∧ ApL Lv' ∧ ∀ p ∈ Lv', 0 ≤ p.1 ∧ p.1 < 258
  cd : CdN s.lo M ((xs.take j).map (·.T)) rb X rx w wr
  tx : ∀ x ∈ xs.take j, wr.heap[x.T]? = some (.cells #[.int .i64 3, .int .i64 x.k, .int .i64 0, .int .i64 x.t, .pointer (some ⟨x.W, 0, none⟩), .pointer (some ⟨x.Q, 0, none⟩)] 212 (0, 0))
/-- all of the queue may be done. -/
structure QOk (s : Gs) (xs : List Wt) : Prop where
  len : 0 < xs.length ∧ xs.length ≤ 8
  dt : (xs.map (·.T)).Nodup
  dh : (xs.map (·.h)).Nodup
  book : ∀ x ∈ xs, ∃ t0, getL s.Lb x.h = some (.int .i64 t0)
  len0 : ∀ x ∈ xs, 0 < x.L.length
  rise : ∀ i (h : i < xs.length), lastN s.lastv xs i < (xs[i]).k
  top : ∀ x ∈ xs, x.k ≤ 1099511627776
  small : ∀ c, (s.vs c).length + 16 * 8 < 1000000
theorem nodup_take {α : Type} {l : List α} (h : l.Nodup) {j : Nat} (hj : j < l.length) : l[j] ∉ l.take j := by
  intro hm
  obtain ⟨i, hi, e⟩ := List.getElem_of_mem hm
  rw [List.length_take] at hi
  rw [List.getElem_take] at e
  exact (List.pairwise_iff_getElem.1 h) i j (by omega) hj (by omega) e
set_option maxRecDepth 100000 in
set_option maxHeartbeats 8000000 in
theorem tdone_many (w : World) {M X rx B rb r n cq lq : Nat} {pq : Option Addr} {s : Gs} {xs : List Wt} (hx : Mx w M X rx B rb r s) (hqv : s.qv = .slice pq n cq) (hout : s.out = n) (hn : xs.length = n)
    (hq : w.ownsRow lq 3 1 (.slice pq n cq) n ((xs.map (·.h)).map encZ)) (hW : ∀ x ∈ xs, WtOk w s.Lr x) (hk : QOk s xs)
    (hap : ApL s.Lv) (hkeys : ∀ p ∈ s.Lv, 0 ≤ p.1 ∧ p.1 < 258) (hlo : s.lo ≤ w.heap.size) (hn0 : 0 ≤ s.num) (hn1 : s.num ≤ 1000000000) :
    Calls Tryz.prog 55 #[.pointer (some ⟨M, 0, none⟩), .int .i64 0] w fun e w' => e = .returned (.int .i64 0) ∧ ∃ z, DnN w w' M X rx B rb r { s with qv := .slice (some ⟨z, 0, none⟩) 0 0, out := 0, num := s.num + 1 } xs n ∧ w'.ownsRow w.heap.size 3 1 (.slice (some ⟨z, 0, none⟩) 0 0) 0 [] := by
  have hm := hx.mgr
  rw [hqv, hout] at hm
  obtain ⟨gq, rfl, hcq, hgq, ⟨cgq, hgqh⟩, hqc⟩ := ints_cell hq (by simpa using hn) (by have := hk.len; omega)
  have HG := Lib.hid (tgone_x w hx)
  have m4 : w.cell? ⟨M, 4, none⟩ = some (.int .i64 n) := cell_is hm 4 rfl
  have m3 : w.cell? ⟨M, 3, none⟩ = some (.slice (some ⟨gq, 0, none⟩) n cq) := cell_is hm 3 rfl
  have kd : Chg [] w w.drew := (Chg.refl [] w).drew
  have hnn : n ≤ 8 ∧ 0 < n := by have := hk.len; omega
  have HWt := Lib.hid (waiting_many w.drew (show MgrG w.drew M X B r _ _ _ _ _ _ _ from hm) (own_keep hq kd.below0) hn (by omega) (hx.map.keep kd (by simp)) (fun x h => (hW x h).keep kd))
  have HX := Lib.hid hx
  have HW := Lib.hid hW
  have HK := Lib.hid hk
  have HAp := Lib.hid hap
  have HKs := Lib.hid hkeys
  have HN := Lib.hid (And.intro hn0 hn1)
  have HLo := Lib.hid hlo
  have HQv := Lib.hid hqv
  have HOt := Lib.hid hout
  have HQc := Lib.hid hqc
  have HLn := Lib.hid hn
  obtain ⟨hn8, hnp⟩ := hnn
  have hnz : ((n : Int) == 0) = false := by rw [beq_eq_false_iff_ne]; omega
  have hcqi : (n : Int) ≤ cq := by omega
  clear hx hm hqv hout hW hk hap hkeys hlo hn0 hn1 hq hqc
  have m4d : w.drew.cell? ⟨M, 4, none⟩ = some (.int .i64 n) := m4
  go_enter Tryz.func55, Tryz.ntmps55
  go_wp2_with fail
  refine HG.out.mono ?_
  rintro e w1 ⟨rfl, rfl⟩
  go_wp2_with fail
  go_region_held3 (fun wx => wx.cell? ⟨M, 4, none⟩ = some (.int .i64 n))
    (first | (exact m4) | (exact m4d) | (exact k2'.cell m4d (by simp)))
    (first
      | (go_at_call 93; refine HWt.out.mono ?_; rintro e w2 ⟨v, rfl, k2', ht⟩; obtain ⟨xv, hov, hxv⟩ := id ht; rw [wtL_length, HLn.out] at hov; obtain ⟨pv, cv, rfl, hcv⟩ := own_form hov; have hcvi : (n : Int) ≤ cv := (by omega); clear hov hxv))
  have k2 := kd.then k2'
  have m42 := k2.cell m4 (by simp)
  have m32 := k2.cell m3 (by simp)
  have HP2 := Lib.hid (ht.low kd.size)
  have hg2 := k2.heap hgqh (by simp)
  clear k2' m4 m3 m4d HWt HG ht kd
  have kd2 : Chg [] w2 w2.drew := (Chg.refl [] w2).drew
  have m42d : w2.drew.cell? ⟨M, 4, none⟩ = some (.int .i64 n) := m42
  have m32d : w2.drew.cell? ⟨M, 3, none⟩ = some (.slice (some ⟨gq, 0, none⟩) n cq) := m32
  have HCl := Lib.hid (iclone_many w2.drew (c := cq) (l := xs.map (·.h)) (by simpa using HLn.out) hnp (by omega) (fun i hi => (k2.then kd2).cell (HQc.out i hi) (by simp)))
  go_wp2_with fail
  go_region_held3 (fun wx => wx.cell? ⟨M, 4, none⟩ = some (.int .i64 n) ∧ wx.cell? ⟨M, 3, none⟩ = some (.slice (some ⟨gq, 0, none⟩) n cq))
    (first | (exact ⟨m42, m32⟩) | (exact ⟨m42d, m32d⟩) | (exact ⟨k3'.cell m42d (by simp), k3'.cell m32d (by simp)⟩))
    (first
      | (go_at_call 97; refine HCl.out.mono ?_; rintro e w3 ⟨gz, cz, rfl, k3', o3⟩))
  have k3 := k2.then (kd2.then k3')
  have HP3 := Lib.hid (HP2.out.keep (kd2.then k3'))
  have HX3 := Lib.hid (HX.out.keep k3)
  have HW3 := Lib.hid (fun x hx => (HW.out x hx).keep k3)
  obtain ⟨gz', ez, hcz, -, ⟨cgz, hgz⟩, hzc⟩ := ints_cell o3 (by simpa using HLn.out) hnp
  obtain rfl : gz = gz' := by cases ez; rfl
  have HZ := Lib.hid (And.intro hgz hzc)
  have hczi : (n : Int) ≤ cz := by omega
  have hlo3 : s.lo ≤ w3.heap.size := Nat.le_trans HLo.out k3.size
  have HK3 := Lib.hid k3
  clear k3' m42 m32 m42d m32d HP2 o3 kd2 hg2 HCl hgz hzc ez k2 k3
  go_wp2_with fail
  go_loopw [6, 7, 35] (fun _ _ i wr => ∃ j : Nat, j ≤ n ∧ i = .int .i64 j ∧ DnN w3 wr M X rx B rb r s xs j) (fun _ _ i _ => n - (intOf i).toNat)
  case atStart => exact ⟨0, by omega, rfl, ⟨⟨s.Lv, HX3.out, HAp.out, HKs.out⟩, CdN.of_chg (Chg.refl [] w3) (fun x hx => by cases hx), fun x hx => by simp at hx⟩⟩
  case round =>
    obtain ⟨j, hj, rfl, hDj⟩ := hrel
    rename World => wr
    by_cases hlt : j < n
    · have hjx : j < xs.length := by have := HLn.out; omega
      have hmem : xs[j] ∈ xs := List.getElem_mem hjx
      have hTn : (xs[j]).T ∉ (xs.take j).map (·.T) := by
        have := nodup_take HK.out.dt (j := j) (by simpa using hjx)
        simpa [List.map_take] using this
      have hHn : ∀ x ∈ xs.take j, x.h ≠ (xs[j]).h := fun x hx e => by
        have := nodup_take HK.out.dh (j := j) (by simpa using hjx)
        rw [← List.map_take] at this
        exact this (by simp only [List.getElem_map]; rw [← e]; exact List.mem_map_of_mem hx)
      have hW3 := HW3.out xs[j] hmem
      obtain ⟨⟨Lv, hx3, hap, hkeys⟩, hcd, htx⟩ := hDj
      obtain ⟨U, kU, hU⟩ := id hcd
      have hx0 := HX3.out
      have hTs : ∀ T ∈ (xs.take j).map (·.T), ∃ cs, w3.heap[T]? = some (.cells cs 212 (0, 0)) := fun T hT => by
        obtain ⟨y, hy, rfl⟩ := List.mem_map.1 hT
        exact ⟨_, (HW3.out y (List.mem_of_mem_take hy)).tx⟩
      have av : ∀ ts : List Nat, (∀ t ∈ ts, t ∉ [184, 212, 237, 247]) → Av w3 U ts := fun ts hts => CdN.av hU hx0.mgr hTs hx0.ver.x hx0.book.2 hx0.ver.m hts
      have hTU : (xs[j]).T ∉ U := fun hm => by
        rcases hU _ hm (heap_lt hW3.tx) with e | e | e | e | e | ⟨-, cs2, h3⟩
        · exact heap_ne hW3.tx hx0.mgr (by simp) e
        · exact hTn e
        · exact map_cells (e ▸ hx0.book.2) hW3.tx rfl
        · exact heap_ne hW3.tx hx0.ver.x (by simp) e
        · exact map_cells (e ▸ hx0.ver.m) hW3.tx rfl
        · rw [hW3.tx] at h3; cases h3
      have T3 := kU.heap hW3.tx hTU
      have hP3 := HP3.out.keepA kU (av _ (by decide))
      have hzU : gz ∉ U := (av [3] (by decide)).ne HZ.out.1 (by simp)
      have z3 : wr.cell? ⟨gz, j, none⟩ = some (.int .i64 (xs[j]).h) := by
        have := kU.cell (HZ.out.2 j (by simpa using hjx)) hzU
        simpa using this
      have hjw : j < (wtL xs).length := by rw [wtL_length]; exact hjx
      obtain ⟨g, pb, cb, e1, g03, g13, hp3⟩ := hP3.get j hjw
      have ewt : (wtL xs)[j] = ((xs[j]).k, putsL (xs[j]).L (xs[j]).D) := by simp [wtL]
      rw [ewt] at g03 g13 hp3
      dsimp only at g03 g13 hp3
      obtain ⟨cg, hgh⟩ : ∃ cg, wr.heap[g]? = some (.cells cg 176 (0, 0)) := by
        obtain ⟨xv, hov, -⟩ := hP3
        exact (own_elem hov (by rw [e1]; rfl)).2
      subst e1
      obtain ⟨t0, hLb⟩ := HK.out.book xs[j] hmem
      rw [← lbN_get j (by omega) hHn] at hLb
      have hpl : (putsL (xs[j]).L (xs[j]).D).length = (xs[j]).L.length := putsL_length _ _
      have hlast : lastN s.lastv xs j < (xs[j]).k := HK.out.rise j hjx
      have hvl : ∀ c, (vsN s.vs xs j c).length + 16 < 1000000 := fun c => by
        have h1 := vsN_len s.vs (fun x hx => (HW3.out x hx).len) c j (by omega)
        have h2 := HK.out.small c
        omega
      have HAy := Lib.hid (apply_ok wr.drew (hx3.keep (Chg.refl [] wr).drew).ver hap hkeys (show s.lo ≤ wr.drew.heap.size from Nat.le_trans hlo3 (Nat.le_trans hcd.size (Chg.refl [] wr).drew.size)) (hp3.keep0 (Chg.refl [] wr).drew) (putsL_in _ hW3.bk) (rise_puts _ hW3.buf.2.nodup) (by rw [hpl]; exact HK.out.len0 _ hmem) (by rw [hpl]; exact hW3.len) hlast (by have := HK.out.top _ hmem; omega) hvl)
      have HGt := Lib.hid hW3.tab
      have HLb := Lib.hid hLb
      have HX3j := Lib.hid hx3
      have HCd := Lib.hid hcd
      have HTx := Lib.hid htx
      have hLs := lastN_succ (a := s.last) hjx
      have hLs2 := lastN_succ (a := s.lastv) hjx
      have hVs := vsN_succ (vs := s.vs) hjx
      have hBs := lbN_succ (L := s.Lb) hjx
      have HEq := Lib.hid (And.intro hLs (And.intro hLs2 (And.intro hVs hBs)))
      have htk : xs.take (j + 1) = xs.take j ++ [xs[j]] := List.take_succ_eq_append_getElem hjx
      have HTk := Lib.hid htk
      have HTn := Lib.hid (fun x (hx : x ∈ xs.take j) => (fun e => hTn (e ▸ List.mem_map_of_mem hx) : (xs[j]).T ≠ x.T))
      clear hx3 hap hkeys hcd htx kU hU hx0 hTs av hTU hP3 hzU hp3 hLb hlast hvl hLs hLs2 hVs hBs htk hW3 ewt hHn hTn hmem hpl
      generalize xs[j] = x at *
      generalize putsL x.L x.D = l at *
      have hji : (j : Int) < n := by omega
      have m0 : wr.cell? ⟨M, 0, none⟩ = some (.pointer (some ⟨X, 0, none⟩)) := HX3j.out.cells.1
      go_wp2_with fail
      have m0d : wr.drew.cell? ⟨M, 0, none⟩ = some (.pointer (some ⟨X, 0, none⟩)) := m0
      have g0d : wr.drew.cell? ⟨g, j * 2, none⟩ = some (.int .i64 x.k) := g03
      have g1d : wr.drew.cell? ⟨g, j * 2 + 1, none⟩ = some (.slice pb l.length cb) := g13
      have HHg := Lib.hid (show wr.drew.heap[g]? = some (.cells cg 176 (0, 0)) from hgh)
      have HXd := Lib.hid (HX3j.out.keep (Chg.refl [] wr).drew)
      refine region_tail 8 (by kernel_rfl) (by kernel_rfl) ?_
      simp only [List.take_succ_cons, List.take_zero, List.drop_succ_cons, List.drop_zero]
      repeat (go_big_quiet_step (fail))
      refine wpQuiet_nil ?_
      go_wp2_with fail
      refine HAy.out.mono ?_
      rintro e w6 ⟨rfl, hcv, Lv', hv', hap', hk'⟩
      obtain ⟨U, kU, hU⟩ := id hcv
      have hU1 := (Cv.av (ts := [184]) hU HXd.out.ver.x HXd.out.ver.m (by decide) (by decide)).ne HXd.out.mgr (by simp)
      have hU2 := (Cv.av (ts := [176]) hU HXd.out.ver.x HXd.out.ver.m (by decide) (by decide)).ne HHg.out (by simp)
      have hx6 := HXd.out.applied hcv hv'
      have T6 := kU.heap (show wr.drew.heap[x.T]? = _ from T3) ((Cv.av (ts := [212]) hU HXd.out.ver.x HXd.out.ver.m (by decide) (by decide)).ne (show wr.drew.heap[x.T]? = _ from T3) (by simp))
      have m76 : w6.cell? ⟨M, 7, none⟩ = some (.int .i64 (lastN s.last xs j)) := hx6.cells.2.2.2
      have f76 := unfrozen hx6.mgr 7
      have g06 := kU.cell g0d hU2
      have hMT : x.T ≠ M := heap_ne T6 hx6.mgr (by simp)
      have hx7 := hx6.set (s' := { s with last := x.k, lastv := x.k, Lv := Lv', vs := applyV (vsN s.vs xs j) x.k l, Lb := lbN s.Lb xs j }) 7 (.int .i64 x.k) (heap_set hx6.mgr 7 _ rfl) rfl rfl rfl rfl rfl rfl rfl
      have T7 := heap_set_ne T6 hMT 7 (.int .i64 x.k)
      have HE := Lib.hid (tend_ok _ hx7.mgr hx7.map HGt.out T7 hx7.book HLb.out)
      have HX7 := Lib.hid hx7
      have HT7 := Lib.hid T7
      have hin : x.T ∈ (xs.take (j + 1)).map (·.T) := by rw [HTk.out]; simp
      have HC7 := Lib.hid (((HCd.out.more (Us := (xs.take (j + 1)).map (·.T)) (fun y hy => by rw [HTk.out, List.map_append]; exact List.mem_append_left _ hy)).trans (CdN.of_cd (T := x.T) (((Cd.of_chg (lo := s.lo) (M := M) (T := x.T) (rb := rb) (X := X) (rx := rx) (Chg.refl [] wr).drew (fun x hx => by cases hx)).trans (Cd.of_cv hcv)).trans (Cd.of_chg (Chg.set w6 M 7 (.int .i64 x.k)) (fun x hx => by simp at hx; simp [hx]))) hin)))
      have HA7 := Lib.hid (And.intro hap' hk')
      have HTx7 := Lib.hid (fun y (hy : y ∈ xs.take j) => by
        have h1 := kU.heap (show wr.drew.heap[y.T]? = _ from HTx.out y hy) ((Cv.av (ts := [212]) hU HXd.out.ver.x HXd.out.ver.m (by decide) (by decide)).ne (show wr.drew.heap[y.T]? = _ from HTx.out y hy) (by simp))
        exact heap_set_ne h1 (heap_ne h1 hx6.mgr (by simp)) 7 (.int .i64 x.k))
      clear hx6 hx7 T6 T7 hcv hv' hap' hk' kU hU hU1 hU2 m0 m0d g0d g1d hMT HHg HXd HAy g03 g13 T3 hgh hin
      go_wp2_with fail
      refine HE.out.mono ?_
      rintro e w8 ⟨rfl, k8, hb8, T8⟩
      have hDn : DnN w3 w8 M X rx B rb r s xs (j + 1) := by
        have h7 := HX7.out
        obtain ⟨e1, e2, e3, e4⟩ := HEq.out
        have av : ∀ ts, 212 ∉ ts → Av (w6.setCell ⟨M, 7, none⟩ (.int .i64 x.k)) [x.T, rb] ts := fun ts h1 y hy cs t' fr hh => by
          simp at hy
          rcases hy with rfl | rfl
          · rw [HT7.out] at hh; cases hh; exact h1
          · exact absurd rfl (map_cells h7.book.2 hh)
        have nT : ∀ {y L}, MapAt (w6.setCell ⟨M, 7, none⟩ (.int .i64 x.k)) y L → y ≠ rb → y ∉ [x.T, rb] := fun hm hy => by simp; exact ⟨map_cells hm HT7.out, hy⟩
        refine ⟨⟨Lv', ?_, HA7.out⟩, HC7.out.trans (CdN.of_cd (T := x.T) (Cd.of_chg k8 (fun y hy => by simp at hy; rcases hy with e | e <;> simp [e])) (by rw [HTk.out]; simp)), fun y hy => ?_⟩
        · rw [e1, e2, e3, e4]
          exact ⟨k8.heap h7.mgr ((av [184] (by decide)).ne h7.mgr (by simp)), h7.ver.keepA k8 (av _ (by decide)) (nT h7.ver.m h7.n1), hb8, h7.map.keep k8 (nT h7.map h7.n2), h7.n1, h7.n2, h7.n3⟩
        · rw [HTk.out] at hy
          rcases List.mem_append.1 hy with h | h
          · have h1 := HTx7.out y h
            refine k8.heap h1 ?_
            simp only [List.mem_cons, List.not_mem_nil, or_false, not_or]
            exact ⟨fun e => HTn.out y h e.symm, fun e => map_cells (e ▸ h7.book.2) h1 rfl⟩
          · obtain rfl : y = x := by simpa using h
            exact T8
      have HDn := Lib.hid hDn
      clear hDn k8 hb8 T8 HX7 HT7 HC7 HA7 HE HTx7 HTk HTn HEq HTx
      go_wp2_with fail
      go_roundw
      case rel => exact ⟨j + 1, hlt, by go_num, HDn.out⟩
      case measure => simp [intOf]; omega
    · obtain rfl : n = j := by omega
      obtain ⟨⟨Lv', hx, hap', hk'⟩, hcd, hT8⟩ := hDj
      have hm := hx.mgr
      dsimp only at hm
      rw [HQv.out, HOt.out] at hm
      obtain ⟨hn0, hn1⟩ := HN.out
      have m5 : wr.cell? ⟨M, 5, none⟩ = some (.int .i64 s.num) := cell_is hm 5 rfl
      have f5 := unfrozen hm 5
      have hm5 : MgrG (wr.setCell ⟨M, 5, none⟩ (.int .i64 (s.num + 1))) M X B r (.slice (some ⟨gq, 0, none⟩) n cq) n (s.num + 1) s.bas (lastN s.last xs n) s.given s.rd := heap_set hm 5 _ rfl
      have n3 : (wr.setCell ⟨M, 5, none⟩ (.int .i64 (s.num + 1))).cell? ⟨M, 3, none⟩ = some (.slice (some ⟨gq, 0, none⟩) n cq) := cell_is hm5 3 rfl
      have n4 : (wr.setCell ⟨M, 5, none⟩ (.int .i64 (s.num + 1))).cell? ⟨M, 4, none⟩ = some (.int .i64 n) := cell_is hm5 4 rfl
      have HM := Lib.hid hm
      have HM5 := Lib.hid hm5
      have HXf := Lib.hid hx
      have HA7 := Lib.hid (And.intro hap' hk')
      have HCd := Lib.hid hcd
      have HT8 := Lib.hid hT8
      clear hm hm5 hx hap' hk' hcd HX3 HP3 hT8
      go_upto_region 15 with fail
      have hx5 := HXf.out.set (s' := { s with last := lastN s.last xs n, lastv := lastN s.lastv xs n, Lv := Lv', vs := vsN s.vs xs n, Lb := lbN s.Lb xs n, num := s.num + 1 }) 5 (.int .i64 (s.num + 1)) (by rw [HQv.out, HOt.out]; exact HM5.out) rfl rfl rfl rfl rfl rfl rfl
      have HX5 := Lib.hid hx5
      have k5 := Chg.set wr M 5 (.int .i64 (s.num + 1))
      have HT5 := Lib.hid (fun y (hy : y ∈ xs.take n) => (And.intro (heap_ne (HT8.out y hy) HM.out (by simp)) (heap_set_ne (HT8.out y hy) (heap_ne (HT8.out y hy) HM.out (by simp)) 5 (.int .i64 (s.num + 1)))))
      clear hx5 m5 f5 hn0 hn1 HT8
      generalize wr.setCell ⟨M, 5, none⟩ (.int .i64 (s.num + 1)) = w5 at *
      have kd5 : Chg [] w5 w5.drew := (Chg.refl [] w5).drew
      have n3d : w5.drew.cell? ⟨M, 3, none⟩ = some (.slice (some ⟨gq, 0, none⟩) n cq) := n3
      have n4d : w5.drew.cell? ⟨M, 4, none⟩ = some (.int .i64 n) := n4
      have hcq2 : cq = n ∨ ¬ cq = n := by omega
      rcases hcq2 with hcq1 | hcq1
      · subst hcq1
        go_region_law
          (first
            | (go_simp; go_at_call 97; refine (iclone_zero w5.drew gq _ _).mono ?_; rintro e w6 ⟨zq, rfl, k6, o6⟩; have f36 := unfrozen ((kd5.then k6).heap HM5.out (by simp)) 3; have m36 : w6.cell? ⟨M, 3, none⟩ = some _ := cell_is ((kd5.then k6).heap HM5.out (by simp)) 3 rfl))
        all_goals
          have k56 := kd5.then k6
          have hx6 := HX5.out.keep k56
          have hm6 := k56.heap HM5.out (by simp)
          have f46 := unfrozen hm6 4
          have m46 : w6.cell? ⟨M, 4, none⟩ = some (.int .i64 cq) := cell_is hm6 4 rfl
          have hmA : MgrG (w6.setCell ⟨M, 3, none⟩ (.slice (some ⟨zq, 0, none⟩) 0 0)) M X B r (.slice (some ⟨zq, 0, none⟩) 0 0) cq (s.num + 1) s.bas (lastN s.last xs cq) s.given s.rd := heap_set hm6 3 _ rfl
          have hmB : MgrG ((w6.setCell ⟨M, 3, none⟩ (.slice (some ⟨zq, 0, none⟩) 0 0)).setCell ⟨M, 4, none⟩ (.int .i64 0)) M X B r (.slice (some ⟨zq, 0, none⟩) 0 0) 0 (s.num + 1) s.bas (lastN s.last xs cq) s.given s.rd := heap_set hmA 4 _ rfl
          have hxA := hx6.set (s' := { s with last := lastN s.last xs cq, lastv := lastN s.lastv xs cq, Lv := Lv', vs := vsN s.vs xs cq, Lb := lbN s.Lb xs cq, num := s.num + 1, qv := .slice (some ⟨zq, 0, none⟩) 0 0 }) 3 (.slice (some ⟨zq, 0, none⟩) 0 0) (by rw [HOt.out]; exact hmA) rfl rfl rfl rfl rfl rfl rfl
          have hxB := hxA.set (s' := { s with last := lastN s.last xs cq, lastv := lastN s.lastv xs cq, Lv := Lv', vs := vsN s.vs xs cq, Lb := lbN s.Lb xs cq, num := s.num + 1, qv := .slice (some ⟨zq, 0, none⟩) 0 0, out := 0 }) 4 (.int .i64 0) hmB rfl rfl rfl rfl rfl rfl rfl
          have TB := fun y (hy : y ∈ xs.take cq) => heap_set_ne (heap_set_ne (k56.heap (HT5.out y hy).2 (by simp)) (HT5.out y hy).1 3 (.slice (some ⟨zq, 0, none⟩) 0 0)) (HT5.out y hy).1 4 (.int .i64 0)
          have kA := Chg.set w6 M 3 (.slice (some ⟨zq, 0, none⟩) 0 0)
          have kB := Chg.set (w6.setCell ⟨M, 3, none⟩ (.slice (some ⟨zq, 0, none⟩) 0 0)) M 4 (.int .i64 0)
          have oB := ownsRow_av (ownsRow_av o6 kA (Av.row hm6 (by decide))) kB (Av.row hmA (by decide))
          have hszd : w.heap.size ≤ w5.drew.heap.size := Nat.le_trans HK3.out.size (Nat.le_trans HCd.out.size k5.size)
          have one : ∀ {a b : World}, Chg [M] a b → CdN s.lo M ((xs.take cq).map (·.T)) rb X rx a b := fun h => CdN.of_chg h (fun x hx => by simp at hx; simp [hx])
          have HFin := Lib.hid (And.intro (DnN.mk (s := { s with qv := .slice (some ⟨zq, 0, none⟩) 0 0, out := 0, num := s.num + 1 }) (w := w) (xs := xs) (j := cq) ⟨Lv', hxB, HA7.out⟩ ((((((CdN.of_chg HK3.out (fun x hx => by cases hx) : CdN s.lo M ((xs.take cq).map (·.T)) rb X rx w w3).trans HCd.out).trans (one k5)).trans (CdN.of_chg k56 (fun x hx => by cases hx))).trans (one kA)).trans (one kB)) TB) (ownsRow_low oB hszd))
          clear hx6 hm6 hmA hmB hxA hxB TB kA kB oB one k56 k6 o6 HX5 HM5 HM HT5
          go_wp2_with fail
          go_ret
          exact ⟨rfl, zq, HFin.out⟩
      · have hcq3 : ¬ (cq : Int) = n := by omega
        go_region_law
          (first
            | (go_simp; go_at_call 97; refine (iclone_zero w5.drew gq _ _).mono ?_; rintro e w6 ⟨zq, rfl, k6, o6⟩; have f36 := unfrozen ((kd5.then k6).heap HM5.out (by simp)) 3; have m36 : w6.cell? ⟨M, 3, none⟩ = some _ := cell_is ((kd5.then k6).heap HM5.out (by simp)) 3 rfl))
        all_goals
          have k56 := kd5.then k6
          have hx6 := HX5.out.keep k56
          have hm6 := k56.heap HM5.out (by simp)
          have f46 := unfrozen hm6 4
          have m46 : w6.cell? ⟨M, 4, none⟩ = some (.int .i64 n) := cell_is hm6 4 rfl
          have hmA : MgrG (w6.setCell ⟨M, 3, none⟩ (.slice (some ⟨zq, 0, none⟩) 0 0)) M X B r (.slice (some ⟨zq, 0, none⟩) 0 0) n (s.num + 1) s.bas (lastN s.last xs n) s.given s.rd := heap_set hm6 3 _ rfl
          have hmB : MgrG ((w6.setCell ⟨M, 3, none⟩ (.slice (some ⟨zq, 0, none⟩) 0 0)).setCell ⟨M, 4, none⟩ (.int .i64 0)) M X B r (.slice (some ⟨zq, 0, none⟩) 0 0) 0 (s.num + 1) s.bas (lastN s.last xs n) s.given s.rd := heap_set hmA 4 _ rfl
          have hxA := hx6.set (s' := { s with last := lastN s.last xs n, lastv := lastN s.lastv xs n, Lv := Lv', vs := vsN s.vs xs n, Lb := lbN s.Lb xs n, num := s.num + 1, qv := .slice (some ⟨zq, 0, none⟩) 0 0 }) 3 (.slice (some ⟨zq, 0, none⟩) 0 0) (by rw [HOt.out]; exact hmA) rfl rfl rfl rfl rfl rfl rfl
          have hxB := hxA.set (s' := { s with last := lastN s.last xs n, lastv := lastN s.lastv xs n, Lv := Lv', vs := vsN s.vs xs n, Lb := lbN s.Lb xs n, num := s.num + 1, qv := .slice (some ⟨zq, 0, none⟩) 0 0, out := 0 }) 4 (.int .i64 0) hmB rfl rfl rfl rfl rfl rfl rfl
          have TB := fun y (hy : y ∈ xs.take n) => heap_set_ne (heap_set_ne (k56.heap (HT5.out y hy).2 (by simp)) (HT5.out y hy).1 3 (.slice (some ⟨zq, 0, none⟩) 0 0)) (HT5.out y hy).1 4 (.int .i64 0)
          have kA := Chg.set w6 M 3 (.slice (some ⟨zq, 0, none⟩) 0 0)
          have kB := Chg.set (w6.setCell ⟨M, 3, none⟩ (.slice (some ⟨zq, 0, none⟩) 0 0)) M 4 (.int .i64 0)
          have oB := ownsRow_av (ownsRow_av o6 kA (Av.row hm6 (by decide))) kB (Av.row hmA (by decide))
          have hszd : w.heap.size ≤ w5.drew.heap.size := Nat.le_trans HK3.out.size (Nat.le_trans HCd.out.size k5.size)
          have one : ∀ {a b : World}, Chg [M] a b → CdN s.lo M ((xs.take n).map (·.T)) rb X rx a b := fun h => CdN.of_chg h (fun x hx => by simp at hx; simp [hx])
          have HFin := Lib.hid (And.intro (DnN.mk (s := { s with qv := .slice (some ⟨zq, 0, none⟩) 0 0, out := 0, num := s.num + 1 }) (w := w) (xs := xs) (j := n) ⟨Lv', hxB, HA7.out⟩ ((((((CdN.of_chg HK3.out (fun x hx => by cases hx) : CdN s.lo M ((xs.take n).map (·.T)) rb X rx w w3).trans HCd.out).trans (one k5)).trans (CdN.of_chg k56 (fun x hx => by cases hx))).trans (one kA)).trans (one kB)) TB) (ownsRow_low oB hszd))
          clear hx6 hm6 hmA hmB hxA hxB TB kA kB oB one k56 k6 o6 HX5 HM5 HM HT5
          go_wp2_with fail
          go_ret
          exact ⟨rfl, zq, HFin.out⟩
end Go.Proofs.YtliicpedddcfiaaGreat
namespace Go.Proofs.YtliicpedddcfiaaGreat
open Go.RowKit Go.Lib

theorem WtOk.keepA {w w' : World} {U : List Nat} {Lr : List (Int × Value)} {x : Wt} (h : WtOk w Lr x) (hc : Chg U w w') (hU : Av w U [212, 260, 5]) (hr : x.rw ∉ U) : WtOk w' Lr x :=
  ⟨h.tab, hc.heap h.tx (hU.ne h.tx (by simp)), h.buf.keep hc (hU.ne h.buf.1 (by simp)) hr, h.bd.keepA hc (fun x hx cs t fr hh ht => hU x hx cs t fr hh (by simp at ht; simp [ht])), h.bk, h.len⟩
/-- transactions that wait, beside a store. -/
structure WtN (w : World) (s : Gs) (lq : Nat) (xs : List Wt) : Prop where
  q : ∃ pq cq, s.qv = .slice pq xs.length cq ∧ w.ownsRow lq 3 1 s.qv xs.length ((xs.map (·.h)).map encZ)
  wt : ∀ x ∈ xs, WtOk w s.Lr x
  ok : QOk s xs
theorem WtN.keepA {w w' : World} {U : List Nat} {s : Gs} {lq : Nat} {xs : List Wt} (h : WtN w s lq xs) (hc : Chg U w w') (hU : Av w U [3, 212, 260, 5]) (hr : ∀ x ∈ xs, x.rw ∉ U) : WtN w' s lq xs := by
  obtain ⟨pq, cq, e, ho⟩ := h.q
  refine ⟨⟨pq, cq, e, own_chgB ho hc (fun g hg => ?_)⟩, fun x hx => (h.wt x hx).keepA hc (fun y hy cs t fr hh ht => hU y hy cs t fr hh (by simp at ht; simp [ht])) (hr x hx), h.ok⟩
  obtain ⟨-, cs, hh⟩ := own_elem ho hg
  exact hU.ne hh (by simp)
theorem WtN.keep {w w' : World} {s : Gs} {lq : Nat} {xs : List Wt} (h : WtN w s lq xs) (hc : Chg [] w w') : WtN w' s lq xs := h.keepA hc (Av.nil _ _) (by simp)
theorem Cs.of_cdn {lw lo M rb X rx : Nat} {Ts : List Nat} {w w' : World} {csM csX : Array Value} {L1 L2 : List (Int × Value)} (h : CdN lo M Ts rb X rx w w')
    (hM : w.heap[M]? = some (.cells csM 184 (0, 0))) (hT : ∀ T ∈ Ts, lw ≤ T ∧ ∃ cs, w.heap[T]? = some (.cells cs 212 (0, 0))) (hX : w.heap[X]? = some (.cells csX 237 (0, 0))) (h1 : MapAt w rb L1) (h2 : MapAt w rx L2) (hb : lw ≤ lo ∧ lw ≤ M ∧ lw ≤ rb ∧ lw ≤ X ∧ lw ≤ rx) : Cs lw w w' := by
  obtain ⟨S, k1, k2⟩ := h
  refine ⟨S, k1, fun x hx hlt => ?_⟩
  obtain ⟨b1, b2, b4, b5, b6⟩ := hb
  rcases k2 x hx hlt with rfl | e | rfl | rfl | rfl | ⟨hl, cs2, h3⟩
  · exact ⟨b2, fun cs t fr hh => by rw [hM] at hh; cases hh; simp⟩
  · obtain ⟨b3, cs2, h3⟩ := hT x e
    exact ⟨b3, fun cs t fr hh => by rw [h3] at hh; cases hh; simp⟩
  · exact ⟨b4, fun cs t fr hh => absurd rfl (map_cells h1 hh)⟩
  · exact ⟨b5, fun cs t fr hh => by rw [hX] at hh; cases hh; simp⟩
  · exact ⟨b6, fun cs t fr hh => absurd rfl (map_cells h2 hh)⟩
  · exact ⟨by omega, fun cs t fr hh => by rw [h3] at hh; cases hh; simp⟩
/-- the manager behind a batch of all that waits. -/
def doneSN (s : Gs) (z : Nat) (Lv' : List (Int × Value)) (xs : List Wt) : Gs :=
  { s with qv := .slice (some ⟨z, 0, none⟩) 0 0, out := 0, num := s.num + 1, last := lastN s.last xs xs.length, lastv := lastN s.lastv xs xs.length, Lv := Lv', vs := vsN s.vs xs xs.length, Lb := lbN s.Lb xs xs.length }
/-- the log behind it. -/
def doneGN (g : Gd) (v6 : Value) (l : TxL) : Gd :=
  { g with pos := g.pos + putsN l l.length + 1, num := g.num + 1, ops := g.ops + (putsN l l.length : Nat) + 2, dv := upF g.dv 6 v6, gs := goodF g.gs (upF g.zs 6 (g.zs 6 ++ batM g.cnt (g.num + 1) l)) 8, zs := upF g.zs 6 (g.zs 6 ++ batM g.cnt (g.num + 1) l) }
/-- what a flush of all that waits leaves. -/
def FlushN (w w' : World) (lw : Nat) (d : Ids) (s : Gs) (g : Gd) (xs : List Wt) : Prop :=
  ∃ z Lv' v6, Sto w' lw d (doneSN s z Lv' xs) (doneGN g v6 (wtL xs)) ∧ Cs lw w w' ∧ w'.ownsRow lw 3 1 (.slice (some ⟨z, 0, none⟩) 0 0) 0 [] ∧ ∀ x ∈ xs, w'.heap[x.T]? = some (.cells #[.int .i64 3, .int .i64 x.k, .int .i64 0, .int .i64 x.t, .pointer (some ⟨x.W, 0, none⟩), .pointer (some ⟨x.Q, 0, none⟩)] 212 (0, 0))
set_option maxRecDepth 100000 in
set_option maxHeartbeats 4000000 in
theorem sflush_many (w : World) {lw lq : Nat} {d : Ids} {s : Gs} {g : Gd} {xs : List Wt} (h : Sto w lw d s g) (hw : WtN w s lq xs) (hout : s.out = 0) (hT : ∀ x ∈ xs, lw ≤ x.T) (hlw : lw ≤ w.heap.size)
    (hbat : BatOk (wtL xs)) (hform : formF 0 0 (wtL xs) = xs.length) (hn0 : 0 ≤ s.num) (hn1 : s.num ≤ 100000000) (hroom : (g.zs 6).length + putsN (wtL xs) (wtL xs).length + 1 ≤ 96) (hpos : g.pos + putsN (wtL xs) (wtL xs).length + 1 ≤ 96) (ho0 : 0 ≤ g.ops) (ho1 : g.ops ≤ 100000) (hcnt : g.cnt < 4294967296) (hnum : g.num < 1000000000) :
    Calls Tryz.prog 26 #[.pointer (some ⟨d.P, 0, none⟩)] w fun e w' => e = .returned (.int .i64 0) ∧ FlushN w w' lw d s g xs := by
  have HD := Lib.hid (dead_g w h.store)
  have p5 : w.cell? ⟨d.P, 5, none⟩ = some (.pointer (some ⟨d.M, 0, none⟩)) := cell_is h.store 5 rfl
  have hm := h.mx.mgr
  obtain ⟨pq, cq, eqv, hqo⟩ := hw.q
  rw [eqv] at hqo
  rw [eqv, hout] at hm
  obtain ⟨hl0, hl8⟩ := hw.ok.len
  have hwl : (wtL xs).length = xs.length := wtL_length xs
  have HB := Lib.hid (tbatch_many w (l := wtL xs) hm (fun t ht => by have := (hbat.tx.ne t ht).2; omega) hwl hl0 (by omega) hn0 (by omega) (fun w1 k1 => waiting_many w1 (k1.heap hm (by simp)) (own_keep hqo k1.below0) rfl (by omega) (h.mx.map.keep k1 (by simp)) (fun x hx => (hw.wt x hx).keep k1)))
  rw [hform] at HB
  rw [show (wtL xs).take xs.length = wtL xs from List.take_of_length_le (by omega)] at HB
  have HS := Lib.hid h
  have HW := Lib.hid hw
  have HO := Lib.hid hout
  have HQv := Lib.hid eqv
  have HBt := Lib.hid hbat
  have HWl := Lib.hid hwl
  have HT := Lib.hid hT
  have HRm := Lib.hid (And.intro hroom hpos)
  clear h hw hm hout hqo hbat hwl hform hT hroom hpos eqv
  go_enter Tryz.func26, Tryz.ntmps26
  go_wp2_with fail
  refine HD.out.mono ?_
  rintro e w1 ⟨rfl, rfl⟩
  go_wp2_with fail
  refine HB.out.mono ?_
  rintro e w1 ⟨gt, ct, rfl, k1, hm1, ht1⟩
  have hS := HS.out
  have avM : ∀ ts, 184 ∉ ts → Av w [d.M] ts := fun ts h1 => Av.row hS.mx.mgr h1
  have nmM : ∀ {x L}, MapAt w x L → x ∉ [d.M] := fun hm => by simpa using map_cells hm hS.mx.mgr
  have S1 : Sto w1 lw d { s with out := (xs.length : Nat) } g :=
    ⟨k1.heap hS.store ((avM [105] (by decide)).ne hS.store (by simp)), k1.heap hS.slot ((avM [159] (by decide)).ne hS.slot (by simp)), hS.text.keep k1 (avM _ (by decide)), hS.dev.keep k1 (avM _ (by decide)),
      hS.mx.chgM k1 (by rw [HQv.out]; exact hm1) rfl rfl rfl rfl rfl rfl rfl, hS.ap, hS.keys, hS.bnd, hS.bndZ, Nat.le_trans hS.slo k1.size, hS.dlo⟩
  have W1 := HW.out.keepA k1 (avM _ (by decide)) (fun x hx => nmM (HW.out.wt x hx).buf.2)
  have c1 : Cs lw w w1 := Cs.of_tp (ts := [184]) k1 (fun x hx => by rw [List.mem_singleton] at hx; subst hx; exact ⟨_, _, hS.mx.mgr, by simp⟩) (by decide) (fun x hx => by rw [List.mem_singleton] at hx; subst hx; exact hS.bnd.2.2.2.1)
  have ka : Chg [] w1 (w1.alloc (.cells #[.int .i64 (s.num + 1), .slice gt xs.length ct] 134)) := Chg.alloc w1 _
  have A0 := heap_new w1 (.cells #[.int .i64 (s.num + 1), .slice gt xs.length ct] 134)
  have S2 := S1.keep ka
  have W2 := W1.keep ka
  have c2 := c1.trans (Cs.of_chg ka)
  have ht2 := ht1.keep ka
  have h6 : 6 < d.Z.length := by have := S2.dev.len; omega
  have hwr := swrite_many _ (num0 := s.num + 1) S2.store (fun w' k' => load_g w' (k'.heap S2.slot (by simp)) (S2.text.keep k' (Av.nil _ _))) S2.dev ho0 ho1 S2.dlo ht2 HWl.out HBt.out hcnt (by omega) HRm.out.1 HRm.out.2 h6
  have HWr := Lib.hid hwr
  have q5 : w1.cell? ⟨d.P, 5, none⟩ = some (.pointer (some ⟨d.M, 0, none⟩)) := cell_is S1.store 5 rfl
  have HS2 := Lib.hid S2
  have HW2 := Lib.hid W2
  have HC2 := Lib.hid c2
  obtain ⟨pn, hpn⟩ : ∃ pn, pn = xs.length := ⟨_, rfl⟩
  clear hwr S1 S2 W1 W2 c1 c2 ht1 ht2 hm1 k1 ka hS avM nmM HB HD
  go_wp2_with fail
  generalize w1.alloc (.cells #[.int .i64 (s.num + 1), .slice gt xs.length ct] 134) = w2 at *
  refine HWr.out.mono ?_
  rintro e w3 ⟨rfl, k3, hP3, v6, hd3⟩
  have S2 := HS2.out
  have tp := S2.wtp.1
  have S3x : Mx w3 d.M d.X d.rx d.B d.rb d.r { s with out := (xs.length : Nat) } := S2.mx.keepA k3 (tp.av (by decide)) (tp.map S2.mx.ver.m) (tp.map S2.mx.book.2) (tp.map S2.mx.map)
  have slot3 := k3.heap S2.slot ((tp.av (ts' := [159]) (by decide)).ne S2.slot (by simp))
  have text3 := S2.text.keep k3 (tp.av (by decide))
  have W3 := HW2.out.keepA k3 (tp.av (by decide)) (fun x hx => tp.map (HW2.out.wt x hx).buf.2)
  have c3 := HC2.out.trans (Cs.of_tp k3 tp (by decide) S2.wtp.2)
  obtain ⟨pq', cq', eq', hq'⟩ := W3.q
  have hdn := tdone_many w3 S3x (show ({ s with out := (xs.length : Nat) } : Gs).qv = _ from eq') rfl rfl (by rw [eq'] at hq'; exact hq') W3.wt ⟨W3.ok.len, W3.ok.dt, W3.ok.dh, W3.ok.book, W3.ok.len0, W3.ok.rise, W3.ok.top, W3.ok.small⟩ S2.ap S2.keys (Nat.le_trans S2.slo k3.size) hn0 (by show s.num ≤ _; omega)
  have HDn := Lib.hid hdn
  have r5 : w3.cell? ⟨d.P, 5, none⟩ = some (.pointer (some ⟨d.M, 0, none⟩)) := cell_is hP3 5 rfl
  have HS3 := Lib.hid (And.intro S3x (And.intro slot3 (And.intro text3 (And.intro hP3 hd3))))
  have HW3 := Lib.hid W3
  have HC3 := Lib.hid c3
  clear hdn S2 tp S3x slot3 text3 hP3 hd3 W3 c3 hq' eq' k3 HWr HC2 HW2 q5
  go_wp2_with fail
  refine HDn.out.mono ?_
  rintro e w4 ⟨rfl, z, ⟨⟨Lv', hx4, hap4, hk4⟩, hcd, htx⟩, o4⟩
  have hF : FlushN w w4 lw d s g xs := by
    obtain ⟨hx3, slot3, text3, hP3, hd3⟩ := HS3.out
    have hTs : ∀ T ∈ (xs.take xs.length).map (·.T), lw ≤ T ∧ ∃ cs, w3.heap[T]? = some (.cells cs 212 (0, 0)) := fun T hT => by
      obtain ⟨y, hy, rfl⟩ := List.mem_map.1 hT
      have hy := List.mem_of_mem_take hy
      exact ⟨HT.out y hy, _, (HW3.out.wt y hy).tx⟩
    have c4 := HC3.out.trans (Cs.of_cdn hcd hx3.mgr hTs hx3.ver.x hx3.book.2 hx3.ver.m (by
      have := HS.out.bnd
      exact ⟨this.2.2.2.2.2.2.2.2.2.1, this.2.2.2.1, this.2.2.2.2.2.2.2.1, this.2.2.2.2.1, this.2.2.2.2.2.1⟩))
    obtain ⟨U, kU, hU⟩ := hcd
    have av : ∀ ts : List Nat, (∀ t ∈ ts, t ∉ [184, 212, 237, 247]) → Av w3 U ts := fun ts hts => CdN.av hU hx3.mgr (fun T hT => (hTs T hT).2) hx3.ver.x hx3.book.2 hx3.ver.m hts
    refine ⟨z, Lv', v6, ⟨?_, kU.heap slot3 ((av [159] (by decide)).ne slot3 (by simp)), text3.keep kU (av _ (by decide)), hd3.keep kU (av _ (by decide)), hx4, hap4, hk4, HS.out.bnd, HS.out.bndZ, Nat.le_trans HS.out.slo c4.size, HS.out.dlo⟩, c4, ownsRow_low o4 (Nat.le_trans hlw HC3.out.size), fun x hx => htx x (by rw [List.take_length]; exact hx)⟩
    exact kU.heap hP3 ((av [105] (by decide)).ne hP3 (by simp))
  have HF := Lib.hid hF
  clear hF hx4 hap4 hk4 hcd htx o4 HDn HS3 HW3 HC3 r5
  go_wp2_with fail
  go_ret
  exact ⟨rfl, HF.out⟩
end Go.Proofs.YtliicpedddcfiaaGreat
namespace Go.Proofs.YtliicpedddcfiaaGreat
open Go.RowKit Go.Lib

theorem WtOk.keepT {w w' : World} {U : List Nat} {Lr : List (Int × Value)} {x : Wt} (h : WtOk w Lr x) (hc : Chg U w w') (hT : x.T ∉ U) (hU : Av w U [260, 5]) (hr : x.rw ∉ U) : WtOk w' Lr x :=
  ⟨h.tab, hc.heap h.tx hT, h.buf.keep hc (hU.ne h.buf.1 (by simp)) hr, h.bd.keepA hc (fun y hy cs t fr hh ht => hU y hy cs t fr hh (by simp at ht; simp [ht])), h.bk, h.len⟩
theorem WtOk.lt {w : World} {Lr : List (Int × Value)} {x : Wt} (h : WtOk w Lr x) : x.T < w.heap.size ∧ x.rw < w.heap.size := ⟨heap_lt h.tx, h.buf.2.lt⟩
/-- a manager with one more that waits. -/
def comQ (s : Gs) (g n c : Nat) : Gs := { s with qv := .slice (some ⟨g, 0, none⟩) n c, given := s.given + 1 }
/-- the one that a Commit adds. -/
def wtOf (d : Ids) (p : Par) (k : Nat) (b : Int) (v : Value) (q : Int → List UInt8) : Wt := ⟨p.h, d.T, d.W, d.rw, d.Q, k, p.t, [(b, v)], q⟩
/-- what a Commit leaves beside others that wait. -/
def ComM (w w' : World) (lw : Nat) (d : Ids) (s : Gs) (g : Gd) (p : Par) (b : Int) (v : Value) (q : Int → List UInt8) (k nq : Nat) (xs : List Wt) : Prop :=
  ∃ gq cq, Sto w' lw d (comQ s gq (nq + 1) cq) g ∧ w'.ownsRow lw 3 1 (.slice (some ⟨gq, 0, none⟩) (nq + 1) cq) (nq + 1) (((xs ++ [wtOf d p k b v q]).map (fun x => x.h)).map encZ) ∧
    Chg (d.M :: d.T :: s.qv.ownBlock.toList) w w' ∧ (∀ x ∈ xs ++ [wtOf d p k b v q], WtOk w' s.Lr x) ∧ Cs lw w w'
set_option maxRecDepth 100000 in
theorem scommit_many (w : World) {lw base nq cq k : Nat} {d : Ids} {s : Gs} {g : Gd} {p : Par} {q : Int → List UInt8} {b : Int} {v : Value} {pq : Option Addr} {xs : List Wt} (hf : Fr base d p (StoF lw d s g)) (h : Su w base d p (StoF lw d s g) q [(b, v)] 0) (hqv : s.qv = .slice pq nq cq) (hq : w.ownsRow lw 3 1 (.slice pq nq cq) nq ((xs.map (fun x => x.h)).map encZ)) (hxn : xs.length = nq) (hn1 : nq ≤ 1000)
    (hx : ∀ x ∈ xs, WtOk w s.Lr x ∧ x.T ≠ d.T) (hxb : ∀ x ∈ xs, ∀ p ∈ putsL x.L x.D, p.1 ≠ b) (hrd : s.rd = false) (ho : OldV p.Lv p.vs p.t) (hg : s.given + 1 = (k : Nat)) (hg1 : s.given < 1099511627776) (hg0 : 0 ≤ s.given) (hb0 : 0 ≤ b) (hb1 : b < 258) (htab : getL s.Lr p.h = some (.pointer (some ⟨d.T, 0, none⟩))) (hT : lw ≤ d.T) :
    Calls Tryz.prog 131 #[.pointer (some ⟨d.P, 0, none⟩), .int .i64 p.h] w fun e w' => e = .returned (.int .i64 0) ∧ ComM w w' lw d s g p b v q k nq xs := by
  have hS : Sto w lw d s g := h.env
  have hN := hf.need w h.env
  have hm := hS.mx.mgr
  have hlw : lw ≤ w.heap.size := by have := hS.bnd.1; have := heap_lt hS.store; omega
  rw [hqv, hrd] at hm
  refine scommit_one w hN ((tcommit_many w hN ho hm hg0 hg1 hq hxn hn1 hS.mx.map (fun x hx2 => (hx x hx2).1) hxb hlw h.tx h.buf h.bufD hb0 hb1 h.vw h.sp).mono ?_)
  rintro e w' ⟨gq, c, rfl, k1, hm', ho', hT'⟩
  refine ⟨rfl, gq, c, ?_⟩
  have tp : Tp w (d.M :: d.T :: (Value.slice pq nq cq).ownBlock.toList) [184, 212, 3] := fun x hx => by
    simp only [List.mem_cons] at hx
    rcases hx with rfl | rfl | hx
    · exact ⟨_, _, hm, by simp⟩
    · exact ⟨_, _, h.tx, by simp⟩
    · obtain ⟨-, cs, hh⟩ := own_elem hq (show (Value.slice pq nq cq).ownBlock = some x by simpa using hx)
      exact ⟨_, _, hh, by simp⟩
  have hbn := hS.bnd
  refine ⟨⟨k1.heap hS.store ((tp.av (ts' := [105]) (by decide)).ne hS.store (by simp)), k1.heap hS.slot ((tp.av (ts' := [159]) (by decide)).ne hS.slot (by simp)), hS.text.keep k1 (tp.av (by decide)), hS.dev.keep k1 (tp.av (by decide)),
    ⟨by show MgrG w' d.M d.X d.B d.r (.slice (some ⟨gq, 0, none⟩) (nq + 1) c) s.out s.num s.bas s.last (s.given + 1) s.rd; rw [hrd]; exact hm', hS.mx.ver.keepA k1 (tp.av (by decide)) (tp.map hS.mx.ver.m), ⟨k1.heap hS.mx.book.1 ((tp.av (ts' := [240]) (by decide)).ne hS.mx.book.1 (by simp)), hS.mx.book.2.keep k1 (tp.map hS.mx.book.2)⟩, hS.mx.map.keep k1 (tp.map hS.mx.map), hS.mx.n1, hS.mx.n2, hS.mx.n3⟩, hS.ap, hS.keys, hS.bnd, hS.bndZ, Nat.le_trans hS.slo k1.size, hS.dlo⟩, ?_, by rw [hqv]; exact k1, fun x hx2 => ?_, Cs.of_tp k1 tp (by decide) (fun x hx => ?_)⟩
  · rw [List.map_append, List.map_append]
    exact ho'
  · rcases List.mem_append.1 hx2 with hx2 | hx2
    · obtain ⟨h1, h2⟩ := hx x hx2
      refine h1.keepT k1 ?_ (tp.av (by decide)) (tp.map h1.buf.2)
      simp only [List.mem_cons, not_or]
      refine ⟨heap_ne h1.tx hm (by simp), h2, fun hm2 => ?_⟩
      obtain ⟨-, cs, hh⟩ := own_elem hq (show (Value.slice pq nq cq).ownBlock = some x.T by simpa using hm2)
      rw [h1.tx] at hh
      cases hh
    · rw [List.mem_singleton] at hx2
      subst hx2
      exact ⟨htab, by show TxW w' d.T d.W d.Q ((k : Nat) : Int) p.t; rw [← hg]; exact hT', h.buf.keep k1 ((tp.av (ts' := [260]) (by decide)).ne h.buf.1 (by simp)) (tp.map h.buf.2), h.bufD.keepA k1 (tp.av (by decide)), h.keys, (by decide : 1 ≤ 16)⟩
  · simp only [List.mem_cons] at hx
    rcases hx with rfl | rfl | hx
    · omega
    · exact hT
    · have := (own_elem hq (show (Value.slice pq nq cq).ownBlock = some x by simpa using hx)).1
      omega
theorem putL_new {L : List (Int × Value)} {k : Int} (h : ∀ p ∈ L, p.1 ≠ k) (v : Value) : putL L k v = L ++ [(k, v)] := by
  induction L with
  | nil => rfl
  | cons p l ih =>
    simp only [putL]
    rw [if_neg (fun e => h p (List.mem_cons_self ..) e.symm), ih (fun q hq => h q (List.mem_cons_of_mem _ hq))]
    rfl
end Go.Proofs.YtliicpedddcfiaaGreat
namespace Go.Proofs.YtliicpedddcfiaaGreat
open Go.RowKit Go.Lib

/-- the queue and those that wait in it. -/
structure QAt (w : World) (lw : Nat) (s : Gs) (xs : List Wt) : Prop where
  q : w.ownsRow lw 3 1 s.qv xs.length ((xs.map (·.h)).map encZ)
  wt : ∀ x ∈ xs, WtOk w s.Lr x
theorem QAt.keepA {w w' : World} {U : List Nat} {lw : Nat} {s : Gs} {xs : List Wt} (h : QAt w lw s xs) (hc : Chg U w w') (hU : Av w U [3, 212, 260, 5]) (hr : ∀ x ∈ xs, x.rw ∉ U) : QAt w' lw s xs := by
  refine ⟨own_chgB h.q hc (fun g hg => ?_), fun x hx => (h.wt x hx).keepA hc (fun y hy cs t fr hh ht => hU y hy cs t fr hh (by simp at ht; simp [ht])) (hr x hx)⟩
  obtain ⟨-, cs, hh⟩ := own_elem h.q hg
  exact hU.ne hh (by simp)
theorem QAt.keep {w w' : World} {lw : Nat} {s : Gs} {xs : List Wt} (h : QAt w lw s xs) (hc : Chg [] w w') : QAt w' lw s xs := h.keepA hc (Av.nil _ _) (by simp)
/-- what a commit that waits leaves. -/
def CAskM (w w' : World) (lw : Nat) (d : Ids) (s : Gs) (g : Gd) (xs : List Wt) (x : Wt) : Prop :=
  ∃ gq cq, Sto w' lw d (comQ s gq (xs.length + 1) cq) g ∧ QAt w' lw (comQ s gq (xs.length + 1) cq) (xs ++ [x]) ∧ Cs lw w w'
set_option maxRecDepth 100000 in
set_option maxHeartbeats 4000000 in
theorem commit_askM (w : World) {K Bb lw base k : Nat} {d : Ids} {s : Gs} {g : Gd} {p : Par} {q : Int → List UInt8} {b : Int} {v : Value} {xs : List Wt} {oo : Nat} {cs bc : Array Value} {oh : Int} (hB : SchB w K cs) (h1 : cs[1]? = some (.pointer (some ⟨d.P, 0, none⟩))) (h5 : cs[oo + 3]? = some (.bool false))
    (hb : w.heap[Bb]? = some (.cells bc 85 (0, 0))) (hbc : bc[0]? = some (.int .i64 p.h)) (hf : Fr base d p (StoF lw d s g)) (h : Su w base d p (StoF lw d s g) q [(b, v)] 0) (htab : getL s.Lr p.h = some (.pointer (some ⟨d.T, 0, none⟩))) (hlw : lw ≤ w.heap.size) (_hTl : lw ≤ d.T)
    (hC : ∀ wx, Chg [] w wx → Calls Tryz.prog 131 #[.pointer (some ⟨d.P, 0, none⟩), .int .i64 p.h] wx fun e w' => e = .returned (.int .i64 0) ∧ ComM wx w' lw d s g p b v q k xs.length xs) :
    Calls Tryz.prog 92 #[.pointer (some ⟨K, 0, none⟩), .pointer (some ⟨K, oo, none⟩), .pointer (some ⟨Bb, 0, none⟩), .agg #[.int .i64 4, .int .i64 0, .int .i64 oh, .int .i64 0, .slice none 0 0]] w fun e w' =>
      e = .returned (.tuple #[.agg #[.int .i64 0, .int .i64 0, .int .i64 0, .int .i64 0, .slice none 0 0], .bool false]) ∧ CAskM w w' lw d s g xs (wtOf d p k b v q) := by
  have kk : Chg [] w ((w.alloc (.cells #[.int .i64 4, .int .i64 0, .int .i64 oh, .int .i64 0, .slice none 0 0] 39)).alloc (.cells #[.int .i64 0, .int .i64 0, .int .i64 0, .int .i64 0, .slice none 0 0] 39)) := (Chg.alloc w _).then_alloc _
  obtain ⟨y1, y2⟩ := heap_new2 w (.cells #[.int .i64 4, .int .i64 0, .int .i64 oh, .int .i64 0, .slice none 0 0] 39) (.cells #[.int .i64 0, .int .i64 0, .int .i64 0, .int .i64 0, .slice none 0 0] 39)
  generalize hw0 : (w.alloc (.cells #[.int .i64 4, .int .i64 0, .int .i64 oh, .int .i64 0, .slice none 0 0] 39)).alloc (.cells #[.int .i64 0, .int .i64 0, .int .i64 0, .int .i64 0, .slice none 0 0] 39) = w0 at *
  have hz1 := heap_lt y1
  generalize hz : w.heap.size = z at *
  have k1 : w0.cell? ⟨K, 1, none⟩ = some (.pointer (some ⟨d.P, 0, none⟩)) := kk.cell (cell_is hB 1 h1) (by simp)
  have k5 : w0.cell? ⟨K, oo + 3, none⟩ = some (.bool false) := kk.cell (cell_is hB (oo + 3) h5) (by simp)
  have b0 : w0.cell? ⟨Bb, 0, none⟩ = some (.int .i64 p.h) := kk.cell (cell_is hb 0 hbc) (by simp)
  have h2 := h.keep hf kk
  have hS2 : Sto w0 lw d s g := h2.env
  have hN := hf.need w0 h2.env
  have HR1 := Lib.hid (result_ok w0.drew (P := d.P) (M := d.M) (X := d.X) hN.p5 hN.m0 hN.m2 hS2.mx.map htab (cell_is h2.tx 0 rfl) (cell_is h2.tx 1 rfl) (cell_is h2.tx 2 rfl))
  have y1d : w0.drew.heap[z]? = _ := y1
  have y2d : w0.drew.heap[z + 1]? = _ := y2
  have B0 : w0.drew.heap[K]? = _ := kk.heap hB (by simp)
  have b0d : w0.drew.heap[Bb]? = _ := kk.heap hb (by simp)
  have HX := Lib.hid (And.intro y1d (And.intro y2d (And.intro B0 (And.intro b0d (And.intro kk.drew (show w0.drew.heap.size = w0.heap.size from rfl))))))
  have HCo := Lib.hid hC
  have h1' := Lib.hid h1
  have h2' := Lib.hid hbc
  clear hB h1 h5 hb hbc hf h h2 hS2 hN hC y1 y2 y1d y2d B0 b0d kk
  go_enter Tryz.func92, Tryz.ntmps92
  go_wp2_with fail
  go_region_held3 (fun wx => wx.cell? ⟨K, 1, none⟩ = some (.pointer (some ⟨d.P, 0, none⟩)) ∧ wx.cell? ⟨Bb, 0, none⟩ = some (.int .i64 p.h))
    (first | (exact ⟨k1, b0⟩) | (exact ⟨k3.cell k1 (by simp), k3.cell b0 (by simp)⟩))
    (first | (go_at_call 130; refine HR1.out.mono ?_; rintro e w3 ⟨rfl, k3⟩))
  obtain ⟨y1d, y2d, B0, b0d, kd, hsd⟩ := HX.out
  have kk3 := kd.then k3
  have y13 := k3.heap y1d (by simp)
  have y23 := k3.heap y2d (by simp)
  have B3 := k3.heap B0 (by simp)
  have b3 := k3.heap b0d (by simp)
  have c1 : w3.cell? ⟨K, 1, none⟩ = some (.pointer (some ⟨d.P, 0, none⟩)) := cell_is B3 1 h1'.out
  have c2 : w3.cell? ⟨Bb, 0, none⟩ = some (.int .i64 p.h) := cell_is b3 0 h2'.out
  have HC3 := Lib.hid (HCo.out w3.drew kk3.drew)
  have y13d : w3.drew.heap[z]? = _ := y13
  have y23d : w3.drew.heap[z + 1]? = _ := y23
  have B3d : w3.drew.heap[K]? = _ := B3
  have b3d : w3.drew.heap[Bb]? = _ := b3
  have HX3 := Lib.hid (And.intro y13d (And.intro y23d (And.intro B3d (And.intro b3d kk3.drew))))
  clear y1d y2d B0 b0d kd kk3 y13 y23 B3 b3 y13d y23d B3d b3d k1 k5 b0 HX HR1 k3
  go_wp2_with fail
  go_still_tail 8, (by kernel_rfl)
  change wpList _ _ _ _ _ w3.drew
  generalize w3.drew = w4 at *
  go_wp2_with fail
  refine HC3.out.mono ?_
  rintro e w5 ⟨rfl, gq, cq, hS5, ho5, -, hx5, cs5⟩
  have hW5 : QAt w5 lw (comQ s gq (xs.length + 1) cq) (xs ++ [wtOf d p k b v q]) := ⟨by rw [List.length_append]; exact ho5, hx5⟩
  clear ho5 hx5
  obtain ⟨y14, y24, B4, b4, kk4⟩ := HX3.out
  have y15 := cs5.heap y14 (by decide)
  have y25 := cs5.heap y24 (by decide)
  have B5 := cs5.heap B4 (by decide)
  have b5 := cs5.heap b4 (by decide)
  have q1 := cell_is y15 1 rfl
  have g1 := unfrozen y15 1
  have HS5 := Lib.hid (And.intro hS5 (And.intro hW5 ((Cs.of_chg (lw := lw) kk4).trans cs5)))
  clear hS5 hW5 cs5 kk4 y14 y24 B4 b4 HX3 HC3 c1 c2
  go_upto_region 4 with fail
  have v1 : (w5.setCell ⟨z, 1, none⟩ (.int .i64 0)).heap[z]? = some (.cells #[.int .i64 4, .int .i64 0, .int .i64 oh, .int .i64 0, .slice none 0 0] 39 (0, 0)) := heap_set y15 1 _ rfl
  have ks : Chg [z] w5 (w5.setCell ⟨z, 1, none⟩ (.int .i64 0)) := Chg.set _ _ _ _
  generalize w5.setCell ⟨z, 1, none⟩ (.int .i64 0) = w6 at *
  have tpz : Tp w5 [z] [39] := fun x hx => by
    rw [List.mem_singleton] at hx
    subst hx
    exact ⟨_, _, y15, by simp⟩
  obtain ⟨hS5, hW5, hL5⟩ := HS5.out
  have hS6 : Sto w6 lw d (comQ s gq (xs.length + 1) cq) g := hS5.keepA ks (tpz.av (by decide)) (tpz.map hS5.mx.ver.m) (tpz.map hS5.mx.book.2) (tpz.map hS5.mx.map)
  have hW6 := hW5.keepA ks (tpz.av (by decide)) (fun x hx => tpz.map (hW5.wt x hx).buf.2)
  have hL6 : Cs lw w w6 := hL5.new_chg ks (fun x hx => by rw [List.mem_singleton] at hx; omega)
  have hzK : ∀ {x : Nat} {cs : Array Value} {t : TypeId}, w5.heap[x]? = some (.cells cs t (0, 0)) → t ≠ 39 → x ∉ [z] := fun hx ht hm => by
    rw [List.mem_singleton] at hm
    subst hm
    rw [y15] at hx
    cases hx
    exact ht rfl
  have B6 := ks.heap B5 (hzK B5 (by decide))
  have b6 := ks.heap b5 (hzK b5 (by decide))
  have y26 := ks.heap y25 (by intro hm; rw [List.mem_singleton] at hm; omega)
  have c0 := cell_is v1 1 rfl
  have c1 : w6.cell? ⟨K, 1, none⟩ = some (.pointer (some ⟨d.P, 0, none⟩)) := cell_is B6 1 h1'.out
  have c2 : w6.cell? ⟨Bb, 0, none⟩ = some (.int .i64 p.h) := cell_is b6 0 h2'.out
  have kd6 : Chg [] w6 w6.drew := (Chg.refl [] w6).drew
  have hS6d := hS6.keep kd6
  have hx6 := hW6.wt (wtOf d p k b v q) (List.mem_append_right _ (List.mem_singleton.2 rfl))
  have HR2 := Lib.hid (result_ok w6.drew (P := d.P) (M := d.M) (X := d.X) (cell_is hS6d.store 5 rfl) (cell_is hS6d.mx.mgr 0 rfl) (cell_is hS6d.mx.mgr 2 rfl) hS6d.mx.map hx6.tab (cell_is (show w6.drew.heap[d.T]? = _ from hx6.tx) 0 rfl) (cell_is (show w6.drew.heap[d.T]? = _ from hx6.tx) 1 rfl) (cell_is (show w6.drew.heap[d.T]? = _ from hx6.tx) 2 rfl))
  have y26d : w6.drew.heap[z + 1]? = _ := y26
  have HX6 := Lib.hid (And.intro y26d (And.intro hS6d (And.intro (hW6.keep kd6) (hL6.trans (Cs.of_chg kd6)))))
  clear hx6 hS5 hW5 hL5 hS6 hW6 hL6 hzK B6 b6 y26 kd6 hS6d HS5 tpz ks v1 y15 y25 B5 b5 q1 g1 y26d
  go_wp2_with fail
  go_region_held3 (fun wx => wx.cell? ⟨K, 1, none⟩ = some (.pointer (some ⟨d.P, 0, none⟩)) ∧ wx.cell? ⟨Bb, 0, none⟩ = some (.int .i64 p.h))
    (first | (exact ⟨c1, c2⟩) | (exact ⟨k7.cell c1 (by simp), k7.cell c2 (by simp)⟩))
    (first | (go_at_call 130; refine HR2.out.mono ?_; rintro e w7 ⟨rfl, k7⟩))
  obtain ⟨y26, hS6, hW6, hL6⟩ := HX6.out
  have y27 := k7.heap y26 (by simp)
  have t0 := cell_is y27 0 rfl
  have t1 := cell_is y27 1 rfl
  have t2 := cell_is y27 2 rfl
  have t3 := cell_is y27 3 rfl
  have t4 := cell_is y27 4 rfl
  have f0 := unfrozen y27 0
  have f1 := unfrozen y27 1
  have f2 := unfrozen y27 2
  have f3 := unfrozen y27 3
  have f4 := unfrozen y27 4
  have HX7 := Lib.hid (And.intro (hS6.keep k7) (And.intro (hW6.keep k7) (hL6.trans (Cs.of_chg k7))))
  clear y26 hS6 hW6 hL6 c0 c1 c2 HX6 HR2 k7
  go_wp2_with fail
  obtain ⟨y11, k11⟩ := set5 (.int .i64 0) (.int .i64 0) (.int .i64 0) (.int .i64 0) (.slice none 0 0) y27
  generalize ((((w7.setCell ⟨z + 1, 0, none⟩ (.int .i64 0)).setCell ⟨z + 1, 1, none⟩ (.int .i64 0)).setCell ⟨z + 1, 2, none⟩ (.int .i64 0)).setCell ⟨z + 1, 3, none⟩ (.int .i64 0)).setCell ⟨z + 1, 4, none⟩ (.slice none 0 0) = w8 at *
  have r0 := cell_is y11 0 rfl
  have r1 := cell_is y11 1 rfl
  have r2 := cell_is y11 2 rfl
  have r3 := cell_is y11 3 rfl
  have r4 := cell_is y11 4 rfl
  obtain ⟨hS7, hW7, hL7⟩ := HX7.out
  have tp : Tp w7 [z + 1] [39] := fun x hx => by
    rw [List.mem_singleton] at hx
    subst hx
    exact ⟨_, _, y27, by simp⟩
  refine bodyPost_ret (v := .tuple #[.agg #[.int .i64 0, .int .i64 0, .int .i64 0, .int .i64 0, .slice none 0 0], .bool false]) (by simp [results, Tryz.results92, go_sem, r0, r1, r2, r3, r4]) rfl ?_
  exact ⟨rfl, gq, cq, hS7.keepA k11 (tp.av (by decide)) (tp.map hS7.mx.ver.m) (tp.map hS7.mx.book.2) (tp.map hS7.mx.map), hW7.keepA k11 (tp.av (by decide)) (fun x hx => tp.map (hW7.wt x hx).buf.2), hL7.new_chg k11 (fun x hx => by rw [List.mem_singleton] at hx; omega)⟩
set_option maxRecDepth 100000 in
set_option maxHeartbeats 4000000 in
theorem commit_toldM (w : World) {K Bb lw : Nat} {d : Ids} {s : Gs} {g : Gd} {oo : Nat} {cs bc : Array Value} {oh h k ev x2 : Int} (hB : SchB w K cs) (h1 : cs[1]? = some (.pointer (some ⟨d.P, 0, none⟩))) (h5 : cs[oo + 3]? = some (.bool true)) (h35 : cs[35]? = some (.int .i64 ev))
    (hb : w.heap[Bb]? = some (.cells bc 85 (0, 0))) (hbc : bc[0]? = some (.int .i64 h)) (hb2 : bc[2]? = some (.int .i64 x2)) (hS : Sto w lw d s g) (htab : getL s.Lr h = some (.pointer (some ⟨d.T, 0, none⟩))) (t0 : w.cell? ⟨d.T, 0, none⟩ = some (.int .i64 3)) (t1 : w.cell? ⟨d.T, 1, none⟩ = some (.int .i64 k)) (t2 : w.cell? ⟨d.T, 2, none⟩ = some (.int .i64 0)) :
    Calls Tryz.prog 92 #[.pointer (some ⟨K, 0, none⟩), .pointer (some ⟨K, oo, none⟩), .pointer (some ⟨Bb, 0, none⟩), .agg #[.int .i64 4, .int .i64 0, .int .i64 oh, .int .i64 0, .slice none 0 0]] w fun e w' =>
      e = .returned (.tuple #[.agg #[.int .i64 4, .int .i64 0, .int .i64 oh, .int .i64 k, .slice none 0 0], .bool true]) ∧ CTold w w' lw Bb d s g bc ev := by
  have kk : Chg [] w ((w.alloc (.cells #[.int .i64 4, .int .i64 0, .int .i64 oh, .int .i64 0, .slice none 0 0] 39)).alloc (.cells #[.int .i64 0, .int .i64 0, .int .i64 0, .int .i64 0, .slice none 0 0] 39)) := (Chg.alloc w _).then_alloc _
  obtain ⟨y1, y2⟩ := heap_new2 w (.cells #[.int .i64 4, .int .i64 0, .int .i64 oh, .int .i64 0, .slice none 0 0] 39) (.cells #[.int .i64 0, .int .i64 0, .int .i64 0, .int .i64 0, .slice none 0 0] 39)
  generalize hw0 : (w.alloc (.cells #[.int .i64 4, .int .i64 0, .int .i64 oh, .int .i64 0, .slice none 0 0] 39)).alloc (.cells #[.int .i64 0, .int .i64 0, .int .i64 0, .int .i64 0, .slice none 0 0] 39) = w0 at *
  have hz1 := heap_lt y1
  generalize hz : w.heap.size = z at *
  have k1 : w0.cell? ⟨K, 1, none⟩ = some (.pointer (some ⟨d.P, 0, none⟩)) := kk.cell (cell_is hB 1 h1) (by simp)
  have k5 : w0.cell? ⟨K, oo + 3, none⟩ = some (.bool true) := kk.cell (cell_is hB (oo + 3) h5) (by simp)
  have b0 : w0.cell? ⟨Bb, 0, none⟩ = some (.int .i64 h) := kk.cell (cell_is hb 0 hbc) (by simp)
  have kd := kk.drew
  have hSd := hS.keep kd
  have HR := Lib.hid (result_ok w0.drew (P := d.P) (M := d.M) (X := d.X) (cell_is hSd.store 5 rfl) (cell_is hSd.mx.mgr 0 rfl) (cell_is hSd.mx.mgr 2 rfl) hSd.mx.map htab (kd.cell t0 (by simp)) (kd.cell t1 (by simp)) (kd.cell t2 (by simp)))
  have y1d : w0.drew.heap[z]? = _ := y1
  have y2d : w0.drew.heap[z + 1]? = _ := y2
  have hKz : K < z ∧ Bb < z := by rw [← hz]; exact ⟨heap_lt hB, heap_lt hb⟩
  have hKB : K ≠ Bb := heap_ne hB hb (by simp)
  have HX := Lib.hid (And.intro y1d (And.intro y2d (And.intro (kd.heap hB (by simp)) (And.intro (kd.heap hb (by simp)) (And.intro kd hSd)))))
  have H1 := Lib.hid (And.intro h1 (And.intro h35 (And.intro hbc hb2)))
  clear hB h1 h5 h35 hb hbc hb2 hS t0 t1 t2 htab y1 y2 y1d y2d kk kd hSd
  go_enter Tryz.func92, Tryz.ntmps92
  go_wp2_with fail
  go_region_held3 (fun wx => wx.cell? ⟨K, 1, none⟩ = some (.pointer (some ⟨d.P, 0, none⟩)) ∧ wx.cell? ⟨Bb, 0, none⟩ = some (.int .i64 h))
    (first | (exact ⟨k1, b0⟩) | (exact ⟨k3.cell k1 (by simp), k3.cell b0 (by simp)⟩))
    (first | (go_at_call 130; refine HR.out.mono ?_; rintro e w3 ⟨rfl, k3⟩))
  obtain ⟨y1d, y2d, B0, b0d, kd, hSd⟩ := HX.out
  have y13 := k3.heap y1d (by simp)
  have y23 := k3.heap y2d (by simp)
  have B3 := k3.heap B0 (by simp)
  have b3 := k3.heap b0d (by simp)
  have q3 := cell_is y13 3 rfl
  have g3 := unfrozen y13 3
  have HY := Lib.hid (And.intro (hSd.keep k3) (kd.then k3))
  clear y1d y2d B0 b0d kd hSd HX HR k1 k5 b0 k3
  go_upto_region 16 with fail
  have v1 : (w3.setCell ⟨z, 3, none⟩ (.int .i64 k)).heap[z]? = some (.cells #[.int .i64 4, .int .i64 0, .int .i64 oh, .int .i64 k, .slice none 0 0] 39 (0, 0)) := heap_set y13 3 _ rfl
  have ks : Chg [z] w3 (w3.setCell ⟨z, 3, none⟩ (.int .i64 k)) := Chg.set _ _ _ _
  generalize w3.setCell ⟨z, 3, none⟩ (.int .i64 k) = w4 at *
  have y24 := ks.heap y23 (by simp)
  have B4 := ks.heap B3 (by simp; omega)
  have b4 := ks.heap b3 (by simp; omega)
  have c35 := cell_is B4 35 H1.out.2.1
  have c2 := cell_is b4 2 H1.out.2.2.2
  have f2 := unfrozen b4 2
  clear q3 g3
  go_upto_region 17 with fail
  have b5 : (w4.setCell ⟨Bb, 2, none⟩ (.int .i64 ev)).heap[Bb]? = some (.cells (bc.setIfInBounds 2 (.int .i64 ev)) 85 (0, 0)) := heap_set b4 2 _ rfl
  have k5 : Chg [Bb] w4 (w4.setCell ⟨Bb, 2, none⟩ (.int .i64 ev)) := Chg.set _ _ _ _
  generalize w4.setCell ⟨Bb, 2, none⟩ (.int .i64 ev) = w5 at *
  have v5 := k5.heap v1 (by simp; omega)
  have y25 := k5.heap y24 (by simp; omega)
  have d0 := cell_is v5 0 rfl
  have d1 := cell_is v5 1 rfl
  have d2 := cell_is v5 2 rfl
  have d3 := cell_is v5 3 rfl
  have d4 := cell_is v5 4 rfl
  have t0 := cell_is y25 0 rfl
  have t1 := cell_is y25 1 rfl
  have t2 := cell_is y25 2 rfl
  have t3 := cell_is y25 3 rfl
  have t4 := cell_is y25 4 rfl
  have e0 := unfrozen y25 0
  have e1 := unfrozen y25 1
  have e2 := unfrozen y25 2
  have e3 := unfrozen y25 3
  have e4 := unfrozen y25 4
  clear c35 c2 f2
  go_wp2_with fail
  obtain ⟨y11, k11⟩ := set5 (.int .i64 4) (.int .i64 0) (.int .i64 oh) (.int .i64 k) (.slice none 0 0) y25
  generalize ((((w5.setCell ⟨z + 1, 0, none⟩ (.int .i64 4)).setCell ⟨z + 1, 1, none⟩ (.int .i64 0)).setCell ⟨z + 1, 2, none⟩ (.int .i64 oh)).setCell ⟨z + 1, 3, none⟩ (.int .i64 k)).setCell ⟨z + 1, 4, none⟩ (.slice none 0 0) = w6 at *
  have r0 := cell_is y11 0 rfl
  have r1 := cell_is y11 1 rfl
  have r2 := cell_is y11 2 rfl
  have r3 := cell_is y11 3 rfl
  have r4 := cell_is y11 4 rfl
  obtain ⟨hS3, k3⟩ := HY.out
  have kf : Chg [Bb, z, z + 1] w3 w6 := ((ks.mono (fun x hx _ => by simp at hx; simp [hx])).then (k5.mono (fun x hx _ => by simp at hx; simp [hx]))).then (k11.mono (fun x hx _ => by simp at hx; simp [hx]))
  have tp : Tp w3 [Bb, z, z + 1] [85, 39] := fun x hx => by
    simp at hx
    rcases hx with rfl | rfl | rfl
    · exact ⟨_, _, b3, by simp⟩
    · exact ⟨_, _, y13, by simp⟩
    · exact ⟨_, _, y23, by simp⟩
  refine bodyPost_ret (v := .tuple #[.agg #[.int .i64 4, .int .i64 0, .int .i64 oh, .int .i64 k, .slice none 0 0], .bool true]) (by simp [results, Tryz.results92, go_sem, r0, r1, r2, r3, r4]) rfl ?_
  exact ⟨rfl, hS3.keepA kf (tp.av (by decide)) (tp.map hS3.mx.ver.m) (tp.map hS3.mx.book.2) (tp.map hS3.mx.map), (k3.mono (T := [Bb]) (fun x hx _ => by cases hx)).trans kf (fun x hx hlt => by simp at hx; simp; omega), k11.heap b5 (by simp; omega)⟩
end Go.Proofs.YtliicpedddcfiaaGreat
namespace Go.Proofs.YtliicpedddcfiaaGreat
open Go.RowKit Go.Lib

/-- what a Begin beside others leaves, as a change of a store. -/
def BegC (w w' : World) (lw : Nat) (d : Ids) (s : Gs) (g : Gd) : Prop := ∃ T W rw Q V, (Chg [d.B, d.rb, d.r] w w' ∧ Cs lw w w') ∧ w.heap.size ≤ T ∧
  Su w' w.heap.size { d with T := T, W := W, rw := rw, Q := Q, V := V } (begP s) (StoF lw { d with T := T, W := W, rw := rw, Q := Q, V := V } (begM s T) g) (fun b => bytT (s.vs b) s.last) [] 0
theorem BegN.cs {w w' : World} {lw : Nat} {d : Ids} {s : Gs} {g : Gd} (hS : Sto w lw d s g) (h : BegN w w' lw d s g) : BegC w w' lw d s g := by
  obtain ⟨T, W, rw, Q, V, k1, b1, hSu⟩ := h
  refine ⟨T, W, rw, Q, V, ⟨k1, [d.B, d.rb, d.r], k1, fun x hx _ => ?_⟩, b1, hSu⟩
  have hbn := hS.bnd
  simp at hx
  rcases hx with rfl | rfl | rfl
  · exact ⟨by omega, fun cs t fr hh => by rw [hS.mx.book.1] at hh; cases hh; simp⟩
  · exact ⟨by omega, fun cs t fr hh => absurd rfl (map_cells hS.mx.book.2 hh)⟩
  · exact ⟨by omega, fun cs t fr hh => absurd rfl (map_cells hS.mx.map hh)⟩
theorem sbegin_cs (w : World) {lw : Nat} {d : Ids} {s : Gs} {g : Gd} (h : Sto w lw d s g) (hLk : ∀ p ∈ s.Lb, 0 ≤ p.1 ∧ p.1 ≤ 1000000) (hLl : s.Lb.length < 16) (h0 : 0 ≤ s.last) (h1 : s.last ≤ 1099511627776) (hb0 : 0 ≤ s.bl) (hb1 : s.bl ≤ 1000000) :
    Calls Tryz.prog 88 #[.pointer (some ⟨d.P, 0, none⟩)] w fun e w' => e = .returned (.tuple #[.int .i64 (s.bl + 1), .int .i64 0]) ∧ BegC w w' lw d s g :=
  (sbegin_many w h hLk hLl h0 h1 hb0 hb1).mono fun _ _ hh => ⟨hh.1, hh.2.cs h⟩
/-- what a client's begin leaves. -/
def CBegO (w w' : World) (lw K : Nat) (d : Ids) (s : Gs) (g : Gd) (cs : Array Value) (oo : Nat) (obv oal : Value) (ev : Int) (nb na : Nat) (xb xa : List Value) : Prop :=
  ∃ T W rw Q V base Bb bv al, Lo lw w w' ∧ w.heap.size ≤ T ∧ w.heap.size ≤ base ∧ lw ≤ Bb ∧ SchB w' K ((cs.setIfInBounds (oo + 1) bv).setIfInBounds 34 al) ∧
    w'.ownsRow lw 83 1 bv (nb + 1) (xb ++ [.pointer (some ⟨Bb, 0, none⟩)]) ∧ w'.ownsRow lw 83 1 al (na + 1) (xa ++ [.pointer (some ⟨Bb, 0, none⟩)]) ∧ w'.heap[Bb]? = some (.cells (begC (s.bl + 1) ev 0) 85 (0, 0)) ∧
    Su w' base { d with T := T, W := W, rw := rw, Q := Q, V := V } (begP s) (StoF lw { d with T := T, W := W, rw := rw, Q := Q, V := V } (begM s T) g) (fun b => bytT (s.vs b) s.last) [] 0 ∧ d.rx < base ∧ d.rb < base ∧ d.r < base ∧ (∀ x, bv.ownBlock = some x → al.ownBlock ≠ some x) ∧ (∀ (B : Nat) (cs : Array Value), w.heap[B]? = some (.cells cs 85 (0, 0)) → w'.heap[B]? = some (.cells cs 85 (0, 0))) ∧ (∀ x, bv.ownBlock = some x → obv.ownBlock = some x ∨ w.heap.size ≤ x) ∧ (∀ x, al.ownBlock = some x → oal.ownBlock = some x ∨ w.heap.size ≤ x) ∧ Chg (d.B :: d.rb :: d.r :: K :: (obv.ownBlock.toList ++ oal.ownBlock.toList)) w w' ∧ ∀ (B : Nat) (cs : Array Value), w.heap[B]? = some (.cells cs 83 (0, 0)) → obv.ownBlock ≠ some B → oal.ownBlock ≠ some B → w'.heap[B]? = some (.cells cs 83 (0, 0))
set_option maxRecDepth 100000 in
set_option maxHeartbeats 4000000 in
theorem cbegin_o (w : World) {K lw nb na : Nat} {d : Ids} {s : Gs} {g : Gd} {cs : Array Value} {oo : Nat} {bv al : Value} {ev : Int} {xb xa : List Value} (h : Sto w lw d s g) (hB : SchB w K cs) (hc1 : cs[1]? = some (.pointer (some ⟨d.P, 0, none⟩))) (hcv : cs[oo + 1]? = some bv) (hc34 : cs[34]? = some al) (hc35 : cs[35]? = some (.int .i64 ev)) (hoo : oo + 3 < 34) (hob : w.ownsRow lw 83 1 bv nb xb) (hoa : w.ownsRow lw 83 1 al na xa)
    (hne : ∀ x, bv.ownBlock = some x → al.ownBlock ≠ some x) (hnb : nb ≤ 900) (hna : na ≤ 900) (hLk : ∀ p ∈ s.Lb, 0 ≤ p.1 ∧ p.1 ≤ 1000000) (hLl : s.Lb.length < 16) (h0 : 0 ≤ s.last) (h1 : s.last ≤ 1099511627776) (hb0 : 0 ≤ s.bl) (hb1 : s.bl ≤ 1000000) (hK : lw ≤ K) (hl : lw ≤ w.heap.size) :
    Calls Tryz.prog 49 #[.pointer (some ⟨K, 0, none⟩), .pointer (some ⟨K, oo, none⟩), .agg #[.int .i64 1, .int .i64 0, .int .i64 0, .int .i64 0, .slice none 0 0]] w fun e w' =>
      e = .returned (.agg #[.int .i64 1, .int .i64 0, .int .i64 nb, .int .i64 s.last, .slice none 0 0]) ∧ CBegO w w' lw K d s g cs oo bv al ev nb na xb xa := by
  have kk : Chg [] w ((w.alloc (.cells #[.int .i64 1, .int .i64 0, .int .i64 0, .int .i64 0, .slice none 0 0] 39)).alloc (.cells #[.int .i64 0, .int .i64 0, .int .i64 0, .int .i64 0, .slice none 0 0] 39)) := (Chg.alloc w _).then_alloc _
  obtain ⟨y1, y2⟩ := heap_new2 w (.cells #[.int .i64 1, .int .i64 0, .int .i64 0, .int .i64 0, .slice none 0 0] 39) (.cells #[.int .i64 0, .int .i64 0, .int .i64 0, .int .i64 0, .slice none 0 0] 39)
  generalize hw0 : (w.alloc (.cells #[.int .i64 1, .int .i64 0, .int .i64 0, .int .i64 0, .slice none 0 0] 39)).alloc (.cells #[.int .i64 0, .int .i64 0, .int .i64 0, .int .i64 0, .slice none 0 0] 39) = w0 at *
  have hz1 := heap_lt y1
  generalize hz : w.heap.size = z at *
  have H0 := h.keep kk
  have B0 : SchB w0 K cs := kk.heap hB (by simp)
  have hKz : K < z := by rw [← hz]; exact heap_lt hB
  have hob0 := own_keep hob kk.below0
  have hoa0 := own_keep hoa kk.below0
  have HLa := Lib.hid (last_ok w0 (P := d.P) (cell_is H0.store 5 rfl) (cell_is H0.mx.mgr 0 rfl) (cell_is H0.mx.mgr 7 rfl))
  have HBe := Lib.hid (sbegin_cs w0 H0 hLk hLl h0 h1 hb0 hb1)
  have k1 : w0.cell? ⟨K, 1, none⟩ = some (.pointer (some ⟨d.P, 0, none⟩)) := cell_is B0 1 hc1
  have HH := Lib.hid (And.intro H0 (And.intro B0 (And.intro hob0 (And.intro hoa0 (And.intro y1 (And.intro y2 kk))))))
  clear H0 B0 hob0 hoa0 h hB hob hoa kk y1 y2 hLk hLl
  go_enter Tryz.func49, Tryz.ntmps49
  go_wp2_with fail
  refine HLa.out.mono ?_
  rintro e w1 ⟨rfl, rfl⟩
  go_wp2_with fail
  refine HBe.out.mono ?_
  rintro e w2 ⟨rfl, T, W, rw, Q, V, ⟨kb2, cs2⟩, hT, hSu⟩
  obtain ⟨H0, B0, hob0, hoa0, y1, y2, kk⟩ := HH.out
  have B2 : SchB w2 K _ := cs2.heap B0 (by decide)
  have z2 := cs2.heap y1 (by decide)
  have x2 := cs2.heap y2 (by decide)
  have hob2 := own_cs hob0 cs2 (by decide)
  have hoa2 := own_cs hoa0 cs2 (by decide)
  have HLt := Lib.hid (show d.rx < w0.heap.size ∧ d.rb < w0.heap.size ∧ d.r < w0.heap.size from ⟨H0.mx.ver.m.lt, H0.mx.book.2.lt, H0.mx.map.lt⟩)
  have HL2 := Lib.hid (And.intro ((Lo.of0 (lw := lw) kk).trans (Lo.of_cs cs2)) (And.intro hSu (And.intro hT kk.size)))
  have HKb := Lib.hid ((kk.mono (fun x hx _ => by cases hx) : Chg [d.B, d.rb, d.r] w w0).then kb2)
  clear kb2
  have H85 := Lib.hid (show ∀ (B : Nat) (cs : Array Value), w.heap[B]? = some (.cells cs 85 (0, 0)) → w2.heap[B]? = some (.cells cs 85 (0, 0)) from fun B cs hh => cs2.heap (kk.heap hh (by simp)) (by decide))
  have H83 := Lib.hid (show ∀ (B : Nat) (cs : Array Value), w.heap[B]? = some (.cells cs 83 (0, 0)) → w2.heap[B]? = some (.cells cs 83 (0, 0)) from fun B cs hh => cs2.heap (kk.heap hh (by simp)) (by decide))
  have hs2 := cs2.size
  have HO2 := Lib.hid (And.intro B2 (And.intro z2 (And.intro x2 (And.intro hob2 hoa2))))
  clear H0 B0 hob0 hoa0 y1 y2 kk cs2 hSu hT HLa HBe HH k1
  have q1 := cell_is z2 1 rfl
  have q2 := cell_is z2 2 rfl
  have f1 := unfrozen z2 1
  have f2 := unfrozen z2 2
  go_upto_region 4 with fail
  have z3 : ((w2.setCell ⟨z, 2, none⟩ (.int .i64 0)).setCell ⟨z, 1, none⟩ (.int .i64 0)).heap[z]? = some (.cells #[.int .i64 1, .int .i64 0, .int .i64 0, .int .i64 0, .slice none 0 0] 39 (0, 0)) := heap_set (heap_set z2 2 _ rfl) 1 _ rfl
  have k3 : Chg [z] w2 ((w2.setCell ⟨z, 2, none⟩ (.int .i64 0)).setCell ⟨z, 1, none⟩ (.int .i64 0)) := (Chg.set _ _ _ _).then (Chg.set _ _ _ _)
  generalize (w2.setCell ⟨z, 2, none⟩ (.int .i64 0)).setCell ⟨z, 1, none⟩ (.int .i64 0) = w3 at *
  have B3 : SchB w3 K _ := k3.heap B2 (by simp; omega)
  have x3 := k3.heap x2 (by simp)
  have nz : ∀ {v n xs}, w2.ownsRow lw 83 1 v n xs → ∀ g, v.ownBlock = some g → g ∉ [z] := fun ho g hg hm => by
    rw [List.mem_singleton] at hm
    subst hm
    obtain ⟨-, cur, hh⟩ := own_elem ho hg
    rw [z2] at hh
    cases hh
  have hob3 := own_chgB hob2 k3 (nz hob2)
  have hoa3 := own_chgB hoa2 k3 (nz hoa2)
  have hs3 := k3.size
  clear q1 q2 f1 f2 nz hob2 hoa2
  have c35 : w3.cell? ⟨K, 35, none⟩ = some (.int .i64 ev) := cell_is B3 35 hc35
  go_upto_region 6 with fail
  have k4 : Chg [] w3 (w3.alloc (.cells #[.int .i64 (s.bl + 1), .int .i64 ev, .int .i64 0, .int .i64 0, .int .i64 0, .int .i64 0, .int .i64 0, .int .i64 0, .slice none 0 0, .slice none 0 0] 85)) := Chg.alloc w3 _
  have yb := heap_new w3 (.cells #[.int .i64 (s.bl + 1), .int .i64 ev, .int .i64 0, .int .i64 0, .int .i64 0, .int .i64 0, .int .i64 0, .int .i64 0, .slice none 0 0, .slice none 0 0] 85)
  generalize w3.alloc (.cells #[.int .i64 (s.bl + 1), .int .i64 ev, .int .i64 0, .int .i64 0, .int .i64 0, .int .i64 0, .int .i64 0, .int .i64 0, .slice none 0 0, .slice none 0 0] 85) = w4 at *
  generalize hb : w3.heap.size = Bb at *
  have B4 : SchB w4 K _ := k4.heap B3 (by simp)
  have z4 := k4.heap z3 (by simp)
  have x4 := k4.heap x3 (by simp)
  have hob4 := own_keep hob3 k4.below0
  have hoa4 := own_keep hoa3 k4.below0
  have hs4 := k4.size
  obtain ⟨pb, cb, rfl, hcb⟩ := own_form hob4
  obtain ⟨pa, ca, rfl, hca⟩ := own_form hoa4
  have c3 : w4.cell? ⟨K, oo + 1, none⟩ = some (.slice pb nb cb) := cell_is B4 (oo + 1) hcv
  have q2 := cell_is z4 2 rfl
  have q3 := cell_is z4 3 rfl
  have f2 := unfrozen z4 2
  have f3 := unfrozen z4 3
  clear c35 z3 x3 hob3 hoa3 B3
  go_upto_region 7 with fail
  have z5 : ((w4.setCell ⟨z, 2, none⟩ (.int .i64 nb)).setCell ⟨z, 3, none⟩ (.int .i64 s.last)).heap[z]? = some (.cells #[.int .i64 1, .int .i64 0, .int .i64 nb, .int .i64 s.last, .slice none 0 0] 39 (0, 0)) := heap_set (heap_set z4 2 _ rfl) 3 _ rfl
  have k5 : Chg [z] w4 ((w4.setCell ⟨z, 2, none⟩ (.int .i64 nb)).setCell ⟨z, 3, none⟩ (.int .i64 s.last)) := (Chg.set _ _ _ _).then (Chg.set _ _ _ _)
  generalize (w4.setCell ⟨z, 2, none⟩ (.int .i64 nb)).setCell ⟨z, 3, none⟩ (.int .i64 s.last) = w5 at *
  have B5 : SchB w5 K _ := k5.heap B4 (by simp; omega)
  have x5 := k5.heap x4 (by simp)
  have b5 := k5.heap yb (by simp; omega)
  have nz : ∀ {v n xs}, w4.ownsRow lw 83 1 v n xs → ∀ g, v.ownBlock = some g → g ∉ [z] := fun ho g hg hm => by
    rw [List.mem_singleton] at hm
    subst hm
    obtain ⟨-, cur, hh⟩ := own_elem ho hg
    rw [z4] at hh
    cases hh
  have hob5 := own_chgB hob4 k5 (nz hob4)
  have hoa5 := own_chgB hoa4 k5 (nz hoa4)
  have hs5 := k5.size
  have c3 : w5.cell? ⟨K, oo + 1, none⟩ = some (.slice pb nb cb) := cell_is B5 (oo + 1) hcv
  have kp : Chg [] w5 (w5.alloc (.cells #[.pointer (some ⟨Bb, 0, none⟩)] 83)) := Chg.alloc w5 _
  have yp := heap_new w5 (.cells #[.pointer (some ⟨Bb, 0, none⟩)] 83)
  have op := own_keep hob5 kp.below0
  have hlp : lw ≤ (w5.alloc (.cells #[.pointer (some ⟨Bb, 0, none⟩)] 83)).heap.size := by have := kp.size; omega
  have Bp : SchB (w5.alloc (.cells #[.pointer (some ⟨Bb, 0, none⟩)] 83)) K _ := kp.heap B5 (by simp)
  clear q2 q3 f2 f3 nz hob4 hoa4 z4 x4 B4 yb
  go_upto_region 8 with (first | (at_builtin; refine wpList_append_beg rfl (.tmp 48) (.tmp 50) rfl lw w5.heap.size 1 nb (.slice pb nb cb) _ xb rfl op hlp (by omega) rfl (cell_is yp 0 rfl) rfl ?_; intro g7 c7 w7 o7 k7 n7; have B7 : SchB w7 K _ := k7.heap Bp (own_not op Bp (by decide)); have s7 := cell_is B7 (oo + 1) hcv; have f7 := unfrozen B7 (oo + 1)))
  have ks8 : Chg [K] w7 (w7.setCell ⟨K, oo + 1, none⟩ (.slice (some ⟨g7, 0, none⟩) (nb + 1) c7)) := Chg.set _ _ _ _
  have B8 : SchB (w7.setCell ⟨K, oo + 1, none⟩ (.slice (some ⟨g7, 0, none⟩) (nb + 1) c7)) K (cs.setIfInBounds (oo + 1) (.slice (some ⟨g7, 0, none⟩) (nb + 1) c7)) := heap_set B7 (oo + 1) _ rfl
  generalize w7.setCell ⟨K, oo + 1, none⟩ (.slice (some ⟨g7, 0, none⟩) (nb + 1) c7) = w8 at *
  have z7 := k7.heap (kp.heap z5 (by simp)) (own_not op (kp.heap z5 (by simp)) (by decide))
  have x7 := k7.heap (kp.heap x5 (by simp)) (own_not op (kp.heap x5 (by simp)) (by decide))
  have b7 := k7.heap (kp.heap b5 (by simp)) (own_not op (kp.heap b5 (by simp)) (by decide))
  have hkK : ∀ {x : Nat} {cs : Array Value} {t : TypeId}, w7.heap[x]? = some (.cells cs t (0, 0)) → t ≠ 72 → x ∉ [K] := fun hx ht hm => by
    rw [List.mem_singleton] at hm
    subst hm
    rw [show w7.heap[_]? = _ from B7] at hx
    cases hx
    exact ht rfl
  have z8 := ks8.heap z7 (hkK z7 (by decide))
  have x8 := ks8.heap x7 (hkK x7 (by decide))
  have b8 := ks8.heap b7 (hkK b7 (by decide))
  have oa7 := own_chgB (own_keep hoa5 kp.below0) k7 (fun g hg hm => hne g (by simpa using hm) hg)
  have nK : ∀ {v n xs}, w7.ownsRow lw 83 1 v n xs → ∀ g, v.ownBlock = some g → g ∉ [K] := fun ho g hg => by
    obtain ⟨-, cur, hh⟩ := own_elem ho hg
    exact hkK hh (by decide)
  have oa8 := own_chgB oa7 ks8 (nK oa7)
  have o8 := own_chgB o7 ks8 (nK o7)
  have hs71 := kp.size
  have hs72 := k7.size
  have hs73 := ks8.size
  have hg7 : ∀ x, (Value.slice (some ⟨g7, 0, none⟩) (nb + 1) c7).ownBlock = some x → (Value.slice pa na ca).ownBlock ≠ some x := fun x hx ha => by
    cases hx
    rcases n7 with h | h
    · exact hne g7 h ha
    · have := (own_elem hoa5 ha).2
      obtain ⟨cur, hh⟩ := this
      have : g7 < w5.heap.size := heap_lt hh
      have h' : g7 = (w5.alloc (.cells #[.pointer (some ⟨Bb, 0, none⟩)] 83)).heap.size := h
      omega
  have hfr7 : (Value.slice pb nb cb).ownBlock = some g7 ∨ z ≤ g7 := by
    rcases n7 with h | h
    · exact Or.inl h
    · have h' : g7 = (w5.alloc (.cells #[.pointer (some ⟨Bb, 0, none⟩)] 83)).heap.size := h
      exact Or.inr (by omega)
  have k58 : Chg (K :: z :: (z + 1) :: ((Value.slice pb nb cb).ownBlock.toList ++ (Value.slice pa na ca).ownBlock.toList)) w2 w8 :=
    (((((k3.mono (fun x hx _ => by simp at hx; simp [hx])).then (k4.mono (fun x hx _ => by cases hx))).then (k5.mono (fun x hx _ => by simp at hx; simp [hx]))).then (kp.mono (fun x hx _ => by cases hx))).then (k7.mono (fun x hx _ => by simp only [List.mem_cons, List.mem_append]; exact Or.inr (Or.inr (Or.inr (Or.inl hx)))))).then (ks8.mono (fun x hx _ => by simp at hx; simp [hx]))
  have c34 : w8.cell? ⟨K, 34, none⟩ = some (.slice pa na ca) := cell_is B8 34 (by rw [Array.getElem?_setIfInBounds_ne (by omega)]; exact hc34)
  have kq : Chg [] w8 (w8.alloc (.cells #[.pointer (some ⟨Bb, 0, none⟩)] 83)) := Chg.alloc w8 _
  have yq := heap_new w8 (.cells #[.pointer (some ⟨Bb, 0, none⟩)] 83)
  have oq := own_keep oa8 kq.below0
  have hlq : lw ≤ (w8.alloc (.cells #[.pointer (some ⟨Bb, 0, none⟩)] 83)).heap.size := by have := kq.size; omega
  have Bq : SchB (w8.alloc (.cells #[.pointer (some ⟨Bb, 0, none⟩)] 83)) K _ := kq.heap B8 (by simp)
  clear z7 x7 b7 oa7 nK ks8 o7 k7 n7 B7 s7 f7 hkK kp yp op hlp Bp c3 z5 x5 b5 hob5 hoa5 B5 k3 k4 k5
  go_upto_region 9 with (first | (at_builtin; refine wpList_append_beg rfl (.tmp 58) (.tmp 60) rfl lw w8.heap.size 1 na (.slice pa na ca) _ xa rfl oq hlq (by omega) rfl (cell_is yq 0 rfl) rfl ?_; intro g9 c9 w9 o9 k9 n9; have B9 : SchB w9 K _ := k9.heap Bq (own_not oq Bq (by decide)); have s9 := cell_is B9 34 (by rw [Array.getElem?_setIfInBounds_ne (by omega)]; exact hc34); have f9 := unfrozen B9 34))
  have ks10 : Chg [K] w9 (w9.setCell ⟨K, 34, none⟩ (.slice (some ⟨g9, 0, none⟩) (na + 1) c9)) := Chg.set _ _ _ _
  have B10 : SchB (w9.setCell ⟨K, 34, none⟩ (.slice (some ⟨g9, 0, none⟩) (na + 1) c9)) K ((cs.setIfInBounds (oo + 1) (.slice (some ⟨g7, 0, none⟩) (nb + 1) c7)).setIfInBounds 34 (.slice (some ⟨g9, 0, none⟩) (na + 1) c9)) := heap_set B9 34 _ rfl
  generalize w9.setCell ⟨K, 34, none⟩ (.slice (some ⟨g9, 0, none⟩) (na + 1) c9) = w10 at *
  have hkK : ∀ {x : Nat} {cs : Array Value} {t : TypeId}, w9.heap[x]? = some (.cells cs t (0, 0)) → t ≠ 72 → x ∉ [K] := fun hx ht hm => by
    rw [List.mem_singleton] at hm
    subst hm
    rw [show w9.heap[_]? = _ from B9] at hx
    cases hx
    exact ht rfl
  have z9 := k9.heap (kq.heap z8 (by simp)) (own_not oq (kq.heap z8 (by simp)) (by decide))
  have x9 := k9.heap (kq.heap x8 (by simp)) (own_not oq (kq.heap x8 (by simp)) (by decide))
  have b9 := k9.heap (kq.heap b8 (by simp)) (own_not oq (kq.heap b8 (by simp)) (by decide))
  have z10 := ks10.heap z9 (hkK z9 (by decide))
  have x10 := ks10.heap x9 (hkK x9 (by decide))
  have b10 := ks10.heap b9 (hkK b9 (by decide))
  have nK : ∀ {v n xs}, w9.ownsRow lw 83 1 v n xs → ∀ g, v.ownBlock = some g → g ∉ [K] := fun ho g hg => by
    obtain ⟨-, cur, hh⟩ := own_elem ho hg
    exact hkK hh (by decide)
  have ob9 := own_chgB (own_keep o8 kq.below0) k9 (fun g hg hm => hg7 g hg (by simpa using hm))
  have ob10 := own_chgB ob9 ks10 (nK ob9)
  have oa10 := own_chgB o9 ks10 (nK o9)
  have k10 : Chg (K :: z :: (z + 1) :: ((Value.slice pb nb cb).ownBlock.toList ++ (Value.slice pa na ca).ownBlock.toList)) w2 w10 :=
    ((k58.then (kq.mono (fun x hx _ => by cases hx))).then (k9.mono (fun x hx _ => by simp only [List.mem_cons, List.mem_append]; exact Or.inr (Or.inr (Or.inr (Or.inr hx)))))).then (ks10.mono (fun x hx _ => by simp at hx; simp [hx]))
  have hfr9 : (Value.slice pa na ca).ownBlock = some g9 ∨ z ≤ g9 := by
    rcases n9 with h | h
    · exact Or.inl h
    · have h' : g9 = (w8.alloc (.cells #[.pointer (some ⟨Bb, 0, none⟩)] 83)).heap.size := h
      have := kq.size
      exact Or.inr (by omega)
  have hdis : ∀ x, (Value.slice (some ⟨g7, 0, none⟩) (nb + 1) c7).ownBlock = some x → (Value.slice (some ⟨g9, 0, none⟩) (na + 1) c9).ownBlock ≠ some x := fun x hx hx9 => by
    cases hx
    cases hx9
    rcases n9 with h | h
    · exact hg7 g7 rfl h
    · obtain ⟨-, cur, hh⟩ := own_elem o8 (g := g7) rfl
      have := heap_lt hh
      have := kq.size
      omega
  clear z9 x9 b9 ob9 nK ks10 o9 k9 n9 B9 s9 f9 hkK kq yq oq hlq Bq c34 z8 x8 b8 oa8 o8 B8 k58
  have d0 := cell_is z10 0 rfl
  have d1 := cell_is z10 1 rfl
  have d2 := cell_is z10 2 rfl
  have d3 := cell_is z10 3 rfl
  have d4 := cell_is z10 4 rfl
  have t0 := cell_is x10 0 rfl
  have t1 := cell_is x10 1 rfl
  have t2 := cell_is x10 2 rfl
  have t3 := cell_is x10 3 rfl
  have t4 := cell_is x10 4 rfl
  have e0 := unfrozen x10 0
  have e1 := unfrozen x10 1
  have e2 := unfrozen x10 2
  have e3 := unfrozen x10 3
  have e4 := unfrozen x10 4
  go_wp2_with fail
  obtain ⟨y11, k11⟩ := set5 (.int .i64 1) (.int .i64 0) (.int .i64 nb) (.int .i64 s.last) (.slice none 0 0) x10
  generalize ((((w10.setCell ⟨z + 1, 0, none⟩ (.int .i64 1)).setCell ⟨z + 1, 1, none⟩ (.int .i64 0)).setCell ⟨z + 1, 2, none⟩ (.int .i64 nb)).setCell ⟨z + 1, 3, none⟩ (.int .i64 s.last)).setCell ⟨z + 1, 4, none⟩ (.slice none 0 0) = w11 at *
  have r0 := cell_is y11 0 rfl
  have r1 := cell_is y11 1 rfl
  have r2 := cell_is y11 2 rfl
  have r3 := cell_is y11 3 rfl
  have r4 := cell_is y11 4 rfl
  have B11 := k11.heap B10 (by intro hm; rw [List.mem_singleton] at hm; omega)
  have hzw : z + 1 < w2.heap.size := heap_lt HO2.out.2.2.1
  have b11 := k11.heap b10 (by intro hm; rw [List.mem_singleton] at hm; omega)
  have nx : ∀ {v n xs}, w10.ownsRow lw 83 1 v n xs → ∀ g, v.ownBlock = some g → g ∉ [z + 1] := fun ho g hg hm => by
    rw [List.mem_singleton] at hm
    subst hm
    obtain ⟨-, cur, hh⟩ := own_elem ho hg
    rw [x10] at hh
    cases hh
  have ob11 := own_chgB ob10 k11 (nx ob10)
  have oa11 := own_chgB oa10 k11 (nx oa10)
  have kf := k10.then (k11.mono (fun x hx _ => by simp at hx; simp [hx]))
  have tp : Tp w2 (K :: z :: (z + 1) :: ((Value.slice pb nb cb).ownBlock.toList ++ (Value.slice pa na ca).ownBlock.toList)) [72, 39, 83] := fun x hx => by
    obtain ⟨t1, t2, t3, t4, t5⟩ := HO2.out
    simp only [List.mem_cons, List.mem_append] at hx
    rcases hx with rfl | rfl | rfl | hx | hx
    · exact ⟨_, _, t1, by simp⟩
    · exact ⟨_, _, t2, by simp⟩
    · exact ⟨_, _, t3, by simp⟩
    · obtain ⟨-, cur, hh⟩ := own_elem t4 (show (Value.slice pb nb cb).ownBlock = some x by simpa using hx)
      exact ⟨_, _, hh, by simp⟩
    · obtain ⟨-, cur, hh⟩ := own_elem t5 (show (Value.slice pa na ca).ownBlock = some x by simpa using hx)
      exact ⟨_, _, hh, by simp⟩
  obtain ⟨hLo, hSu, hT, hsz⟩ := HL2.out
  have hSto : Sto w2 lw { d with T := T, W := W, rw := rw, Q := Q, V := V } (begM s T) g := hSu.env
  have hSto2 := hSto.keepA kf (tp.av (by decide)) (tp.map hSto.mx.ver.m) (tp.map hSto.mx.book.2) (tp.map hSto.mx.map)
  have hSu2 := hSu.keepA kf (tp.av (by decide)) (tp.map hSu.buf.2) hSto2
  have hLf : Lo lw w w11 := hLo.then_chg kf (fun x hx hxl => by
    obtain ⟨t1, t2, t3, t4, t5⟩ := HO2.out
    simp only [List.mem_cons, List.mem_append] at hx
    rcases hx with rfl | rfl | rfl | hx | hx
    · exact ⟨hK, fun cs t fr hh => by rw [show w2.heap[_]? = _ from t1] at hh; cases hh; decide⟩
    · omega
    · omega
    · obtain ⟨e1, cur, e2⟩ := own_elem t4 (show (Value.slice pb nb cb).ownBlock = some x by simpa using hx)
      exact ⟨e1, fun cs t fr hh => by rw [e2] at hh; cases hh; decide⟩
    · obtain ⟨e1, cur, e2⟩ := own_elem t5 (show (Value.slice pa na ca).ownBlock = some x by simpa using hx)
      exact ⟨e1, fun cs t fr hh => by rw [e2] at hh; cases hh; decide⟩)
  refine bodyPost_ret (v := .agg #[.int .i64 1, .int .i64 0, .int .i64 nb, .int .i64 s.last, .slice none 0 0]) (by simp [results, Tryz.results49, go_sem, r0, r1, r2, r3, r4]) rfl ?_
  have hlt := HLt.out
  have h85 : ∀ (B : Nat) (cs : Array Value), w.heap[B]? = some (.cells cs 85 (0, 0)) → w11.heap[B]? = some (.cells cs 85 (0, 0)) := fun B cs hh => kf.heap (H85.out B cs hh) (fun hm => by
    obtain ⟨cs3, t3, e1, e2⟩ := tp B hm
    rw [H85.out B cs hh] at e1
    cases e1
    simp at e2)
  have h83 : ∀ (B : Nat) (cs : Array Value), w.heap[B]? = some (.cells cs 83 (0, 0)) → (Value.slice pb nb cb).ownBlock ≠ some B → (Value.slice pa na ca).ownBlock ≠ some B → w11.heap[B]? = some (.cells cs 83 (0, 0)) := fun B cs hh hx1 hx2 => kf.heap (H83.out B cs hh) (fun hm => by
    obtain ⟨t1, t2, t3, -, -⟩ := HO2.out
    simp only [List.mem_cons, List.mem_append] at hm
    rcases hm with rfl | rfl | rfl | hm | hm
    · have := H83.out _ cs hh; rw [show w2.heap[_]? = _ from t1] at this; cases this
    · have := H83.out _ cs hh; rw [t2] at this; cases this
    · have := H83.out _ cs hh; rw [t3] at this; cases this
    · exact hx1 (by simpa using hm)
    · exact hx2 (by simpa using hm))
  have hchg : Chg (d.B :: d.rb :: d.r :: K :: ((Value.slice pb nb cb).ownBlock.toList ++ (Value.slice pa na ca).ownBlock.toList)) w w11 :=
    (HKb.out.mono (fun x hx _ => by simp only [List.mem_cons, List.not_mem_nil, or_false] at hx; simp only [List.mem_cons]; omega)).trans kf (fun x hx hlt => by
      simp only [List.mem_cons] at hx ⊢
      rcases hx with h | h | h | h
      · exact Or.inr (Or.inr (Or.inr (Or.inl h)))
      · omega
      · omega
      · exact Or.inr (Or.inr (Or.inr (Or.inr h))))
  exact ⟨rfl, T, W, rw, Q, V, w0.heap.size, Bb, _, _, hLf, by omega, by omega, by omega, B11, ob11, oa11, b11, hSu2, hlt.1, hlt.2.1, hlt.2.2, hdis, h85, fun x hx => (by cases hx; rw [hz]; exact hfr7), fun x hx => (by cases hx; rw [hz]; exact hfr9), hchg, h83⟩
end Go.Proofs.YtliicpedddcfiaaGreat
namespace Go.Proofs.YtliicpedddcfiaaGreat
open Go.RowKit Go.Lib

/-- what changes lies at lw or behind it. -/
def Up (lw : Nat) (w w' : World) : Prop := ∃ U, Chg U w w' ∧ ∀ x ∈ U, x < w.heap.size → lw ≤ x
theorem Up.of0 {lw : Nat} {w w' : World} (h : Chg [] w w') : Up lw w w' := ⟨[], h, fun x hx => by cases hx⟩
theorem Up.of_lo {lw : Nat} {w w' : World} (h : Lo lw w w') : Up lw w w' := by
  obtain ⟨U, h1, h2⟩ := h
  exact ⟨U, h1, fun x hx hl => (h2 x hx hl).1⟩
theorem Up.of_ow {base lw : Nat} {w w' : World} (h : Ow base w w') (hb : lw ≤ base) : Up lw w w' := by
  obtain ⟨U, h1, h2⟩ := h
  exact ⟨U, h1, fun x hx _ => Nat.le_trans hb (h2 x hx).1⟩
theorem Up.then {lw : Nat} {a b c : World} {S : List Nat} (h : Up lw a b) (k : Chg S b c) (hS : ∀ x ∈ S, x < b.heap.size → lw ≤ x) : Up lw a c := by
  obtain ⟨U, h1, h2⟩ := h
  refine ⟨U ++ S, (h1.mono (fun x hx _ => List.mem_append_left _ hx)).trans k (fun x hx _ => List.mem_append_right _ hx), fun x hx hlt => ?_⟩
  rcases List.mem_append.1 hx with h | h
  · exact h2 x h hlt
  · exact hS x h (Nat.lt_of_lt_of_le hlt h1.size)
theorem Up.trans {lw : Nat} {a b c : World} (h : Up lw a b) (k : Up lw b c) : Up lw a c := by
  obtain ⟨S, k1, k2⟩ := k
  exact h.then k1 k2
theorem Up.chg0 {lw : Nat} {w0 w w' : World} (h : Chg [] w0 w) (k : Up lw w w') (hl : w0.heap.size ≤ lw) : Chg [] w0 w' := by
  obtain ⟨U, k1, k2⟩ := k
  exact h.trans k1 (fun x hx hlt => by have := k2 x hx (Nat.lt_of_lt_of_le hlt h.size); omega)
/-- the three ops of the law, in a row of their own. -/
structure OpW (w : World) (lw g E D : Nat) (cE cD : Nat) (r : List UInt8) : Prop where
  row : ∃ cur, w.heap[g]? = some (.cells cur 33 (0, 0)) ∧ cur[0]? = some (.int .i64 1) ∧ cur[1]? = some (.int .i64 0) ∧ cur[2]? = some (.int .i64 0) ∧ cur[3]? = some (.int .i64 0) ∧ cur[4]? = some (.slice none 0 0) ∧
    cur[5]? = some (.int .i64 3) ∧ cur[6]? = some (.int .i64 0) ∧ cur[7]? = some (.int .i64 0) ∧ cur[8]? = some (.int .i64 0) ∧ cur[9]? = some (.slice (some ⟨E, 0, none⟩) 1 cE) ∧
    cur[10]? = some (.int .i64 4) ∧ cur[11]? = some (.int .i64 0) ∧ cur[12]? = some (.int .i64 0) ∧ cur[13]? = some (.int .i64 0) ∧ cur[14]? = some (.slice none 0 0)
  put : ∃ cs, w.heap[E]? = some (.cells cs 37 (0, 0)) ∧ cs[0]? = some (.int .i64 1) ∧ cs[1]? = some (.slice (some ⟨D, 0, none⟩) 40 cD)
  bs : Bs w (some ⟨D, 0, none⟩) r
  len : r.length = 40
  bt : Bt w D
theorem OpW.keep {w w' : World} {S : List Nat} {lw g E D cE cD : Nat} {r : List UInt8} (h : OpW w lw g E D cE cD r) (hc : Chg S w w') (hS : ∀ x ∈ S, x < w.heap.size → ∀ cs t fr, w.heap[x]? = some (.cells cs t fr) → t ≠ 33 ∧ t ≠ 37 ∧ t ≠ 5) : OpW w' lw g E D cE cD r := by
  obtain ⟨⟨cur, h1, h1'⟩, ⟨cs, h2, h2'⟩, h3, h4, ct, h5⟩ := h
  have nD : D ∉ S := fun hx => (hS D hx (heap_lt h5) _ _ _ h5).2.2 rfl
  exact ⟨⟨cur, hc.heap h1 (fun hx => (hS g hx (heap_lt h1) _ _ _ h1).1 rfl), h1'⟩, ⟨cs, hc.heap h2 (fun hx => (hS E hx (heap_lt h2) _ _ _ h2).2.1 rfl), h2'⟩, h3.chgB hc nD, h4, ct, hc.heap h5 nD⟩
/-- what stands beside the store: how far it is from w0, the law's world, the ops. -/
structure Bas (w0 : World) (lw C K R g E D cE cD : Nat) (r : List UInt8) (w : World) : Prop where
  up : Up lw w0 w
  wd : w.heap[C]? = some (.cells #[.pointer (some ⟨K, 0, none⟩), .pointer (some ⟨R, 0, none⟩), .int .i64 0] 58 (0, 0))
  ops : OpW w lw g E D cE cD r
theorem Bas.keep {w0 w w' : World} {S : List Nat} {lw C K R g E D cE cD : Nat} {r : List UInt8} (h : Bas w0 lw C K R g E D cE cD r w) (hc : Chg S w w') (hS : ∀ x ∈ S, x < w.heap.size → lw ≤ x ∧ ∀ cs t fr, w.heap[x]? = some (.cells cs t fr) → t ∉ [33, 37, 5, 58]) : Bas w0 lw C K R g E D cE cD r w' := by
  refine ⟨h.up.then hc (fun x hx hl => (hS x hx hl).1), hc.heap h.wd (fun hx => (hS C hx (heap_lt h.wd)).2 _ _ _ h.wd (by decide)), h.ops.keep hc (fun x hx hl cs t fr hh => ?_)⟩
  have := (hS x hx hl).2 cs t fr hh
  simp at this
  exact ⟨this.1, this.2.1, this.2.2.1⟩
theorem Bas.lo {w0 w w' : World} {lw C K R g E D cE cD : Nat} {r : List UInt8} (h : Bas w0 lw C K R g E D cE cD r w) (hc : Lo lw w w') : Bas w0 lw C K R g E D cE cD r w' := by
  obtain ⟨U, h1, h2⟩ := hc
  refine h.keep h1 (fun x hx hl => ⟨(h2 x hx hl).1, fun cs t fr hh hm => (h2 x hx hl).2 cs t fr hh ?_⟩)
  revert hm
  revert t
  simp only [List.mem_cons, List.not_mem_nil, or_false]
  intro t _ hm
  rcases hm with h | h | h | h <;> simp [h]
theorem Bas.tp {w0 w w' : World} {S ts : List Nat} {lw C K R g E D cE cD : Nat} {r : List UInt8} (h : Bas w0 lw C K R g E D cE cD r w) (hc : Chg S w w') (ht : Tp w S ts) (hts : ∀ t ∈ ts, t ∉ [33, 37, 5, 58]) (hl : ∀ x ∈ S, lw ≤ x) : Bas w0 lw C K R g E D cE cD r w' :=
  h.keep hc (fun x hx _ => ⟨hl x hx, fun cs t fr hh => by
    obtain ⟨cs2, t2, h2, h3⟩ := ht x hx
    rw [h2] at hh
    cases hh
    exact hts _ h3⟩)
/-- the one begin. -/
def Beg1 (w : World) (lw Bb : Nat) (bv : Value) (h f t : Int) : Prop := w.ownsRow lw 83 1 bv 1 [.pointer (some ⟨Bb, 0, none⟩)] ∧ w.heap[Bb]? = some (.cells (begC h f t) 85 (0, 0)) ∧ lw ≤ Bb
theorem Beg1.keep {w w' : World} {S : List Nat} {lw Bb : Nat} {bv : Value} {h f t : Int} (hb : Beg1 w lw Bb bv h f t) (hc : Chg S w w') (hS : ∀ x ∈ S, x < w.heap.size → ∀ cs t fr, w.heap[x]? = some (.cells cs t fr) → t ≠ 83 ∧ t ≠ 85) : Beg1 w' lw Bb bv h f t := by
  refine ⟨own_chgB hb.1 hc (fun g hg hm => ?_), hc.heap hb.2.1 (fun hm => (hS Bb hm (heap_lt hb.2.1) _ _ _ hb.2.1).2 rfl), hb.2.2⟩
  obtain ⟨-, cur, hh⟩ := own_elem hb.1 hg
  exact (hS g hm (heap_lt hh) _ _ _ hh).1 rfl
theorem Beg1.at_ {w : World} {lw Bb : Nat} {bv : Value} {h f t : Int} (hb : Beg1 w lw Bb bv h f t) : ∃ g c, bv = .slice (some ⟨g, 0, none⟩) 1 c ∧ w.cell? ⟨g, 0, none⟩ = some (.pointer (some ⟨Bb, 0, none⟩)) := by
  rcases hb.1.2 with ⟨e, h0⟩ | ⟨g, cap, cur, e, hA, hg, hc1, hc2, hc3, ht⟩
  · cases h0
  · refine ⟨g, cap, e, cell_is hg 0 ?_⟩
    have : (cur.toList.take (1 * 1))[0]? = some (.pointer (some ⟨Bb, 0, none⟩)) := by rw [ht]; rfl
    rwa [List.getElem?_take_of_lt (by omega), Array.getElem?_toList] at this
/-- a store's ids with its transaction's. -/
def dT (d : Ids) (T W rw Q V : Nat) : Ids := { d with T := T, W := W, rw := rw, Q := Q, V := V }
/-- an open transaction. -/
def Opn (w : World) (lw : Nat) (d : Ids) (ops : Int) (T base : Nat) (W rw Q V : Nat) (q : Int → List UInt8) (L : List (Int × Value)) : Prop :=
  Su w base (dT d T W rw Q V) (begP (s00 lw)) (StoF lw (dT d T W rw Q V) (begS (s00 lw) T) (g00 lw ops)) q L 0 ∧ (d.rx < base ∧ d.rb < base ∧ d.r < base) ∧ lw ≤ T ∧ lw ≤ base
theorem Opn.keep {w w' : World} {S ts : List Nat} {lw : Nat} {d : Ids} {ops : Int} {T base W rw Q V : Nat} {q : Int → List UInt8} {L : List (Int × Value)} (h : Opn w lw d ops T base W rw Q V q L) (hc : Chg S w w') (tp : Tp w S ts) (hts : ∀ t ∈ ts, t ∈ [72, 39, 85, 83]) : Opn w' lw d ops T base W rw Q V q L := by
  obtain ⟨hS, hr⟩ := h
  have hSto : Sto w lw (dT d T W rw Q V) (begS (s00 lw) T) (g00 lw ops) := hS.env
  have hd : ∀ t ∈ ts, t ∉ [105, 159, 93, 94, 97, 34, 5, 184, 237, 247, 240] := fun t ht => (by decide : ∀ u ∈ ([72, 39, 85, 83] : List Nat), u ∉ [105, 159, 93, 94, 97, 34, 5, 184, 237, 247, 240]) t (hts t ht)
  have hSto2 := hSto.keepA hc (tp.av (fun t ht hm => hd t ht (by revert hm; simp only [List.mem_cons, List.not_mem_nil, or_false]; omega))) (tp.map hSto.mx.ver.m) (tp.map hSto.mx.book.2) (tp.map hSto.mx.map)
  exact ⟨hS.keepA hc (tp.av (fun t ht => (by decide : ∀ u ∈ ([72, 39, 85, 83] : List Nat), u ∉ _) t (hts t ht))) (tp.map hS.buf.2) hSto2, hr⟩
end Go.Proofs.YtliicpedddcfiaaGreat
namespace Go.Proofs.YtliicpedddcfiaaGreat.Sw
open Go.RowKit Go.Lib

/-- ops are added to a client that has none. -/
theorem add_gen (w : World) {j K P lw na E c : Nat} {cl : Nat → Cln} {ev : Int} {ss : List OpS} (hj : j < 8) (h : SchG w lw K P cl na ev) (h0 : (cl j).ss = []) (hnil : (cl j).o = .slice none 0 0) (hE : OpsG w E ss) (hKl : lw ≤ K) (hlw : lw ≤ w.heap.size) (hn : ss.length ≤ 200) :
    Calls Tryz.prog 8 #[.pointer (some ⟨K, 0, none⟩), .int .i64 ((j + 1 : Nat) : Int), .slice (some ⟨E, 0, none⟩) ss.length c] w fun e w' => e = .returned (.int .i64 0) ∧ ∃ o', SchG w' lw K P (upd cl j { cl j with o := o', ss := ss }) na ev ∧ Chg [K] w w' := by
  obtain ⟨al, cs, hM, hB, hA⟩ := h
  have hcell := hM.cell j hj
  refine (sadd_o w (c := c) (a := ((j + 1 : Nat) : Int)) (v := .slice none 0 0) (old := []) (xs := []) (lo := lw) hB hM.c1 ⟨by omega, by omega⟩ (by rw [← cli_nat, hcell.1, hnil]) (RowO.of_own (World.ownsRow_nil _ _ _ _)) rfl hlw hE (by intro h; cases h) (by simpa using hn)).mono ?_
  rintro e w' ⟨rfl, cs', v', xs', hAd⟩
  rw [← cli_nat] at hAd
  have kc : Chg [K] w w' := hAd.chg
  have tK := chgK hB
  have hM2 := hM.tp kc tK (by decide)
  refine ⟨rfl, v', ⟨al, cs', ?_, hAd.blk, ?_⟩, kc⟩
  · refine hM2.turn (c := { cl j with o := v', ss := ss }) hj ⟨rfl, rfl⟩ ⟨xs', hAd.own, hAd.ops⟩ ⟨hAd.at_, ?_, ?_⟩ (fun i i1 _ _ => hAd.rest i i1)
    · rw [hAd.rest _ (by omega)]; exact hcell.2.2.1
    · rw [hAd.rest _ (by omega)]; exact hcell.2.2.2
  · refine (hA.keep kc (fun x hx _ cs t fr hh e => ?_)).congr (fun k hk => ?_)
    · rw [List.mem_singleton] at hx
      subst hx
      rw [show w.heap[_]? = _ from hB] at hh
      cases hh
      cases e
    · by_cases e : k = j
      · subst e; rw [upd_same]; exact ⟨rfl, rfl⟩
      · rw [upd_ne e]; exact ⟨rfl, rfl⟩
/-- a transaction that is open, in general. -/
def OpnG (w : World) (lw : Nat) (d : Ids) (s : Gs) (g : Gd) (T base W rw Q V : Nat) (q : Int → List UInt8) (L : List (Int × Value)) : Prop :=
  Su w base (dT d T W rw Q V) (begP s) (StoF lw (dT d T W rw Q V) (begM s T) g) q L 0 ∧ (d.rx < base ∧ d.rb < base ∧ d.r < base) ∧ lw ≤ T ∧ lw ≤ base
theorem OpnG.keep {w w' : World} {S ts : List Nat} {lw : Nat} {d : Ids} {s : Gs} {g : Gd} {T base W rw Q V : Nat} {q : Int → List UInt8} {L : List (Int × Value)} (h : OpnG w lw d s g T base W rw Q V q L) (hc : Chg S w w') (tp : Tp w S ts) (hts : ∀ t ∈ ts, t ∈ [72, 39, 85, 83, 33]) : OpnG w' lw d s g T base W rw Q V q L := by
  obtain ⟨hS, hr⟩ := h
  have hSto : Sto w lw (dT d T W rw Q V) (begM s T) g := hS.env
  have hd : ∀ t ∈ ts, t ∉ [105, 159, 93, 94, 97, 34, 5, 184, 237, 247, 240] := fun t ht => (by decide : ∀ u ∈ ([72, 39, 85, 83, 33] : List Nat), u ∉ [105, 159, 93, 94, 97, 34, 5, 184, 237, 247, 240]) t (hts t ht)
  have hSto2 := hSto.keepA hc (tp.av (fun t ht hm => hd t ht (by revert hm; simp only [List.mem_cons, List.not_mem_nil, or_false]; omega))) (tp.map hSto.mx.ver.m) (tp.map hSto.mx.book.2) (tp.map hSto.mx.map)
  exact ⟨hS.keepA hc (tp.av (fun t ht => (by decide : ∀ u ∈ ([72, 39, 85, 83, 33] : List Nat), u ∉ _) t (hts t ht))) (tp.map hS.buf.2) hSto2, hr⟩
theorem OpnG.fr {w : World} {lw : Nat} {d : Ids} {s : Gs} {g : Gd} {T base W rw Q V : Nat} {q : Int → List UInt8} {L : List (Int × Value)} (h : OpnG w lw d s g T base W rw Q V q L) : Fr base (dT d T W rw Q V) (begP s) (StoF lw (dT d T W rw Q V) (begM s T) g) :=
  fr_sto h.2.1 (by show getL (putL s.Lr (s.bl + 1) (.pointer (some ⟨T, 0, none⟩))) (s.bl + 1) = _; rw [getL_put, if_pos rfl]; rfl) rfl rfl rfl rfl
/-- what stands beside a store: how far it is from the start, the begins' blocks. -/
structure Bes (w0 : World) (lw : Nat) (bl : List (Nat × Array Value)) (w : World) : Prop where
  up : Up lw w0 w
  bg : ∀ p ∈ bl, w.heap[p.1]? = some (.cells p.2 85 (0, 0))
  lo : ∀ p ∈ bl, lw ≤ p.1
theorem Bes.keep {w0 w w' : World} {lw : Nat} {bl : List (Nat × Array Value)} {S : List Nat} (h : Bes w0 lw bl w) (hc : Chg S w w') (hS : ∀ x ∈ S, x < w.heap.size → lw ≤ x ∧ ∀ cs t fr, w.heap[x]? = some (.cells cs t fr) → t ≠ 85) : Bes w0 lw bl w' :=
  ⟨h.up.then hc (fun x hx hl => (hS x hx hl).1), fun p hp => hc.heap (h.bg p hp) (fun hm => (hS _ hm (heap_lt (h.bg p hp))).2 _ _ _ (h.bg p hp) rfl), h.lo⟩
theorem Bes.tp {w0 w w' : World} {lw : Nat} {bl : List (Nat × Array Value)} {S ts : List Nat} (h : Bes w0 lw bl w) (hc : Chg S w w') (ht : Tp w S ts) (hts : 85 ∉ ts) (hl : ∀ x ∈ S, lw ≤ x) : Bes w0 lw bl w' :=
  h.keep hc (fun x hx _ => ⟨hl x hx, fun cs t fr hh e => by
    obtain ⟨cs2, t2, h2, h3⟩ := ht x hx
    rw [h2] at hh
    cases hh
    subst e
    exact hts h3⟩)
theorem Bes.keep0 {w0 w w' : World} {lw : Nat} {bl : List (Nat × Array Value)} (h : Bes w0 lw bl w) (hc : Chg [] w w') : Bes w0 lw bl w' := h.keep hc (fun x hx => by cases hx)
theorem Bes.cs_ {w0 w w' : World} {lw : Nat} {bl : List (Nat × Array Value)} (h : Bes w0 lw bl w) (hc : Cs lw w w') : Bes w0 lw bl w' := by
  obtain ⟨U, h1, h2⟩ := hc
  exact h.keep h1 (fun x hx hl => ⟨(h2 x hx hl).1, fun cs t fr hh e => by have := (h2 x hx hl).2 cs t fr hh; subst e; revert this; decide⟩)
theorem Bes.ow {w0 w w' : World} {base lw : Nat} {bl : List (Nat × Array Value)} (h : Bes w0 lw bl w) (hc : Ow base w w') (hb : lw ≤ base) : Bes w0 lw bl w' := by
  obtain ⟨U, h1, h2⟩ := hc
  exact h.keep h1 (fun x hx hl => ⟨Nat.le_trans hb (h2 x hx).1, fun cs t fr hh e => by subst e; rcases (h2 x hx).2 _ _ _ hh with h | h | h <;> cases h⟩)
/-- those that wait lie below the places given, away from the store's maps. -/
def Low (d : Ids) (xs : List Wt) (T base : Nat) : Prop := ∀ x ∈ xs, x.T < T ∧ x.rw < base ∧ x.rw ≠ d.rb ∧ x.rw ≠ d.r
theorem QAt.tp {w w' : World} {S ts : List Nat} {lw : Nat} {s : Gs} {xs : List Wt} (h : QAt w lw s xs) (hc : Chg S w w') (ht : Tp w S ts) (hts : ∀ t ∈ ts, t ∉ [3, 212, 260, 5]) : QAt w' lw s xs :=
  h.keepA hc (ht.av hts) (fun x hx => ht.map (h.wt x hx).buf.2)
/-- one more transaction is known. -/
theorem QAt.more {w : World} {lw T : Nat} {s : Gs} {xs : List Wt} (h : QAt w lw s xs) (hne : ∀ x ∈ xs, x.h ≠ s.bl + 1) : QAt w lw (begM s T) xs :=
  ⟨h.q, fun x hx => by
    have hw := h.wt x hx
    exact ⟨by show getL (putL s.Lr (s.bl + 1) (.pointer (some ⟨T, 0, none⟩))) x.h = _; rw [getL_put, if_neg (hne x hx)]; exact hw.tab, hw.tx, hw.buf, hw.bd, hw.bk, hw.len⟩⟩
/-- what is kept by a begin. -/
def RK (lw : Nat) (R : World → Prop) : Prop := ∀ a b S, R a → Chg S a b → (∀ x ∈ S, x < a.heap.size → lw ≤ x ∧ ∀ cs t fr, a.heap[x]? = some (.cells cs t fr) → t ∈ [240, 72, 83, 39]) → R b
theorem RK.true_ {lw : Nat} : RK lw (fun _ => True) := fun _ _ _ _ _ _ => trivial
theorem RK.tp {lw : Nat} {R : World → Prop} (h : RK lw R) {a b : World} {S : List Nat} (hr : R a) (hc : Chg S a b) (ht : Tp a S [72, 39]) (hl : ∀ x ∈ S, lw ≤ x) : R b :=
  h a b S hr hc (fun x hx _ => ⟨hl x hx, fun cs t fr hh => by
    obtain ⟨cs2, t2, h2, h3⟩ := ht x hx
    rw [h2] at hh
    cases hh
    exact (by decide : ∀ u ∈ ([72, 39] : List Nat), u ∈ ([240, 72, 83, 39] : List Nat)) _ h3⟩)
theorem RK.keep0 {lw : Nat} {R : World → Prop} (h : RK lw R) {a b : World} (hr : R a) (hc : Chg [] a b) : R b := h a b [] hr hc (fun x hx => by cases hx)
/-- what a begin leaves. -/
def SBeg (R : World → Prop) (w0 : World) (lw : Nat) (d : Ids) (s : Gs) (g : Gd) (xs : List Wt) (bl : List (Nat × Array Value)) (ev : Int) (bs0 : List Nat) (na0 z : Nat) (bs : List Nat) (na : Nat) (w : World) : Prop :=
  ∃ T base W rw Q V Bb, bs = bs0 ++ [Bb] ∧ na = na0 + 1 ∧ OpnG w lw d s g T base W rw Q V (fun b => bytT (s.vs b) s.last) [] ∧ QAt w lw (begM s T) xs ∧ Low d xs T base ∧ Bes w0 lw ((Bb, begC (s.bl + 1) ev 0) :: bl) w ∧ (z ≤ T ∧ z ≤ base) ∧ R w
theorem SBeg.kept {R : World → Prop} {w0 : World} {lw : Nat} {d : Ids} {s : Gs} {g : Gd} {xs : List Wt} {bl : List (Nat × Array Value)} {ev : Int} {bs0 : List Nat} {na0 z : Nat} (hR : RK lw R) : Kept lw (SBeg R w0 lw d s g xs bl ev bs0 na0 z) := fun bs na a b S h hc ht hl => by
  obtain ⟨T, base, W, rw, Q, V, Bb, h1, h2, h3, h4, h5, h6, h7, h8⟩ := h
  exact ⟨T, base, W, rw, Q, V, Bb, h1, h2, h3.keep hc ht (by decide), QAt.tp h4 hc ht (by decide), h5, h6.tp hc ht (by decide) hl, h7, hR.tp h8 hc ht hl⟩
set_option maxHeartbeats 1000000 in
/-- a client begins. -/
theorem do_beg (w w0 : World) {j K lw na : Nat} {R : World → Prop} (hR : RK lw R) (hr : R w) {d : Ids} {s : Gs} {g : Gd} {cl : Nat → Cln} {al : Value} {ev : Int} {cs : Array Value} {xs : List Wt} {bl : List (Nat × Array Value)} {S : OpS} {pp : Option Addr} {pn pc z : Nat} (hj : j < 8) (hop : S = ⟨1, 0, 0, 0, none⟩) (hM : SchM w lw d.P cl al na ev cs) (hB : SchB w K cs) (hv : OpV w lw S [.int .i64 S.k, .int .i64 S.h, .int .i64 S.a, .int .i64 S.l, .slice pp pn pc])
    (hS : Sto w lw d s g) (hq : QAt w lw s xs) (hx : ∀ x ∈ xs, x.h ≠ s.bl + 1 ∧ x.rw ≠ d.rb ∧ x.rw ≠ d.r) (hb : Bes w0 lw bl w) (hKl : lw ≤ K) (hlw : lw ≤ w.heap.size) (hz : z ≤ w.heap.size) (hnb : (cl j).bs.length ≤ 900) (hna : na ≤ 900) (hLk : ∀ p ∈ s.Lb, 0 ≤ p.1 ∧ p.1 ≤ 1000000) (hLl : s.Lb.length < 16) (h0 : 0 ≤ s.last) (h1 : s.last ≤ 1099511627776) (hb0 : 0 ≤ s.bl) (hb1 : s.bl ≤ 1000000) :
    Calls Tryz.prog 22 #[.pointer (some ⟨K, 0, none⟩), .pointer (some ⟨K, 2 + 4 * j, none⟩), .agg #[.int .i64 S.k, .int .i64 S.h, .int .i64 S.a, .int .i64 S.l, .slice pp pn pc]] w
      (DoR w K (PM lw d.P cl j ev (SBeg R w0 lw d s g xs bl ev (cl j).bs na z)) 1 0 (cl j).bs.length s.last true) := by
  subst hop
  obtain ⟨rfl, rfl, rfl⟩ : pp = none ∧ pn = 0 ∧ pc = 0 := by
    obtain ⟨pv, e, ⟨-, rfl⟩ | ⟨b, dl, hp, -⟩⟩ := hv
    · simp at e
      exact e
    · cases hp
  obtain ⟨xa, hoa⟩ := hM.oa
  refine Co.do_begin w (A := fun x => lw ≤ x) (fun x hx => Nat.le_trans hlw hx) (fun cs => PM.cl (SBeg.kept hR) cs) (fun wy ky => ?_)
  have hMy := hM.keep0 ky
  have hSy := hS.keep ky
  have hcell := hM.cell j hj
  refine (cbegin_o wy (oo := 2 + 4 * j) (cs := cs) (bv := (cl j).bv) (al := al) (ev := ev) (nb := (cl j).bs.length) (na := na) (xb := ptrs (cl j).bs) (xa := xa) hSy (ky.heap hB (by simp)) hM.c1 hcell.2.1 hM.c34 hM.c35 (by omega) (hMy.ob j hj) (own_keep hoa ky.below0) (hM.ne j hj) hnb hna hLk hLl h0 h1 hb0 hb1 hKl (Nat.le_trans hlw ky.size)).mono ?_
  rintro e w' ⟨rfl, T, W, rw, Q, V, base, Bb, bv, al', hLo, hT, hbase, hBl, hB', ob, oa, hBb, hSu, l1, l2, l3, hdis, h85, hbvw, halw, hchg, h83⟩
  have hlt83 : ∀ {v n xs}, wy.ownsRow lw 83 1 v n xs → ∀ x, v.ownBlock = some x → x < wy.heap.size := fun ho x hx => by
    obtain ⟨-, cur, hh⟩ := own_elem ho hx
    exact heap_lt hh
  have hcs : cs.size > 35 := hM.size
  have hrow : ∀ k, k < 8 → k ≠ j → w'.ownsRow lw 83 1 (cl k).bv (cl k).bs.length (ptrs (cl k).bs) := fun k hk hkj => by
    have hk0 := hMy.ob k hk
    refine ⟨hk0.1, ?_⟩
    rcases hk0.2 with h2 | ⟨g, cap, cur, e, hA, hg, hr⟩
    · exact Or.inl h2
    · have e3 : (cl k).bv.ownBlock = some g := by rw [e]; rfl
      exact Or.inr ⟨g, cap, cur, e, hA, h83 g cur hg (fun h => hM.nb j k hj hk (Ne.symm hkj) g h e3) (fun h => hM.ne k hk g e3 h), hr⟩
  have hM' : SchM w' lw d.P (upd cl j { cl j with bv := bv, bs := (cl j).bs ++ [Bb] }) al' (na + 1) ev ((cs.setIfInBounds (2 + 4 * j + 1) bv).setIfInBounds 34 al') := by
    refine ⟨?_, ?_, ?_, fun k hk => ?_, fun k hk => ?_, fun k hk => ?_, ⟨_, oa⟩, fun k hk x hx => ?_, fun k l hk hl hkl x hx => ?_⟩
    · rw [Array.getElem?_setIfInBounds_ne (by omega), Array.getElem?_setIfInBounds_ne (by omega)]; exact hM.c1
    · rw [Array.getElem?_setIfInBounds_self_of_lt (by simp; omega)]
    · rw [Array.getElem?_setIfInBounds_ne (by omega), Array.getElem?_setIfInBounds_ne (by omega)]; exact hM.c35
    · have hn : ∀ i, i ≠ 34 → i ≠ 2 + 4 * j + 1 → ((cs.setIfInBounds (2 + 4 * j + 1) bv).setIfInBounds 34 al')[i]? = cs[i]? := fun i i1 i2 => by
        rw [Array.getElem?_setIfInBounds_ne (Ne.symm i1), Array.getElem?_setIfInBounds_ne (Ne.symm i2)]
      have hc := hM.cell k hk
      by_cases e : k = j
      · subst e
        rw [upd_same, hn (2 + 4 * k) (by omega) (by omega), hn (2 + 4 * k + 2) (by omega) (by omega), hn (2 + 4 * k + 3) (by omega) (by omega)]
        refine ⟨hc.1, ?_, hc.2.2⟩
        rw [Array.getElem?_setIfInBounds_ne (by omega), Array.getElem?_setIfInBounds_self_of_lt (by omega)]
      · rw [upd_ne e, hn _ (by omega) (by omega), hn _ (by omega) (by omega), hn _ (by omega) (by omega), hn _ (by omega) (by omega)]
        exact hc
    · have h5 : OpsA w' lw (cl k).o (cl k).ss := by
        obtain ⟨U, u1, u2⟩ := hLo
        refine (hMy.ops k hk).keepT u1 (fun x hx hl cs t fr hh hm => (u2 x hx hl).2 cs t fr hh ?_)
        revert hm
        simp only [List.mem_cons, List.not_mem_nil, or_false]
        rintro (rfl | rfl | rfl) <;> simp
      by_cases e : k = j
      · subst e; rw [upd_same]; exact h5
      · rw [upd_ne e]; exact h5
    · by_cases e : k = j
      · subst e
        rw [upd_same]
        show w'.ownsRow lw 83 1 bv ((cl k).bs ++ [Bb]).length (ptrs ((cl k).bs ++ [Bb]))
        rw [show ptrs ((cl k).bs ++ [Bb]) = ptrs (cl k).bs ++ [.pointer (some ⟨Bb, 0, none⟩)] by simp [ptrs], List.length_append]
        exact ob
      · rw [upd_ne e]; exact hrow k hk e
    · by_cases e : k = j
      · subst e
        rw [upd_same] at hx
        exact hdis x hx
      · rw [upd_ne e] at hx
        intro ha
        have hlt := hlt83 (hMy.ob k hk) x hx
        rcases halw x ha with h | h
        · exact hM.ne k hk x hx h
        · omega
    · by_cases e : k = j
      · subst e
        rw [upd_same] at hx
        rw [upd_ne (Ne.symm hkl)]
        intro hx2
        have hlt := hlt83 (hMy.ob l hl) x hx2
        rcases hbvw x hx with h | h
        · exact hM.nb k l hk hl hkl x h hx2
        · omega
      · rw [upd_ne e] at hx
        by_cases e2 : l = j
        · subst e2
          rw [upd_same]
          intro hx2
          have hlt := hlt83 (hMy.ob k hk) x hx
          rcases hbvw x hx2 with h | h
          · exact hM.nb k l hk hl hkl x hx h
          · omega
        · rw [upd_ne e2]
          exact hM.nb k l hk hl hkl x hx
  have hby := hb.keep0 ky
  have hqy := hq.keep ky
  have hU : ∀ x ∈ d.B :: d.rb :: d.r :: K :: ((cl j).bv.ownBlock.toList ++ al.ownBlock.toList), lw ≤ x ∧ ∀ cs t fr, wy.heap[x]? = some (.cells cs t fr) → t ∈ [240, 72, 83] := fun x hx => by
    have hbn := hSy.bnd
    simp only [List.mem_cons, List.mem_append] at hx
    rcases hx with rfl | rfl | rfl | rfl | hx | hx
    · exact ⟨by omega, fun cs t fr hh => by rw [hSy.mx.book.1] at hh; cases hh; simp⟩
    · exact ⟨by omega, fun cs t fr hh => absurd rfl (map_cells hSy.mx.book.2 hh)⟩
    · exact ⟨by omega, fun cs t fr hh => absurd rfl (map_cells hSy.mx.map hh)⟩
    · exact ⟨hKl, fun cs t fr hh => by rw [show wy.heap[_]? = _ from ky.heap hB (by simp)] at hh; cases hh; simp⟩
    · obtain ⟨e1, cur, hh⟩ := own_elem (hMy.ob j hj) (show (cl j).bv.ownBlock = some x by simpa using hx)
      exact ⟨e1, fun cs t fr hh2 => by rw [hh] at hh2; cases hh2; simp⟩
    · obtain ⟨e1, cur, hh⟩ := own_elem (own_keep hoa ky.below0) (show al.ownBlock = some x by simpa using hx)
      exact ⟨e1, fun cs t fr hh2 => by rw [hh] at hh2; cases hh2; simp⟩
  have hq' : QAt w' lw s xs := hqy.keepA hchg (fun x hx cs t fr hh hm => by
      have := (hU x hx).2 cs t fr hh
      exact (by decide : ∀ u ∈ ([240, 72, 83] : List Nat), u ∉ [3, 212, 260, 5]) t this hm) (fun x hx2 hm => by
      simp only [List.mem_cons, List.mem_append] at hm
      have hmap := (hqy.wt x hx2).buf.2
      rcases hm with h | h | h | h | h | h
      · exact map_cells hmap hSy.mx.book.1 h
      · exact (hx x hx2).2.1 h
      · exact (hx x hx2).2.2 h
      · exact map_cells hmap (ky.heap hB (by simp)) h
      · obtain ⟨e1, cur, hh⟩ := own_elem (hMy.ob j hj) (show (cl j).bv.ownBlock = some x.rw by simpa using h)
        exact map_cells hmap hh rfl
      · obtain ⟨e1, cur, hh⟩ := own_elem (own_keep hoa ky.below0) (show al.ownBlock = some x.rw by simpa using h)
        exact map_cells hmap hh rfl)
  have hsz := ky.size
  refine ⟨rfl, _, ⟨bv, (cl j).bs ++ [Bb], al', na + 1, hM', T, base, W, rw, Q, V, Bb, rfl, rfl, ⟨hSu, ⟨l1, l2, l3⟩, by omega, by omega⟩, QAt.more hq' (fun x hx2 => (hx x hx2).1), fun x hx2 => ?_, ⟨(hby.keep hchg (fun x hx _ => ⟨(hU x hx).1, fun cs t fr hh e => by have := (hU x hx).2 cs t fr hh; subst e; revert this; decide⟩)).up, fun p hp => ?_, fun p hp => ?_⟩, ⟨by omega, by omega⟩, ?_⟩, hB', fun y cs hy => hLo.heap hy (by decide)⟩
  · have h3 := (hqy.wt x hx2).lt
    exact ⟨by omega, by omega, (hx x hx2).2⟩
  · rcases List.mem_cons.1 hp with rfl | hp
    · exact hBb
    · exact h85 _ _ (hby.bg p hp)
  · rcases List.mem_cons.1 hp with rfl | hp
    · exact hBl
    · exact hby.lo p hp
  · exact hR _ _ _ (hR.keep0 hr ky) hchg (fun x hx _ => ⟨(hU x hx).1, fun cs t fr hh => (by decide : ∀ u ∈ ([240, 72, 83] : List Nat), u ∈ ([240, 72, 83, 39] : List Nat)) t ((hU x hx).2 cs t fr hh)⟩)
end Go.Proofs.YtliicpedddcfiaaGreat.Sw
