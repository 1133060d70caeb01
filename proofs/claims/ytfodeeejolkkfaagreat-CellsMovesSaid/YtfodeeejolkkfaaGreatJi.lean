/- Lemmas and walks: Walks: a batch of one transaction is turned into frames. Walks: a batch of one transaction is written into the log. Walks: a handle is closed; a transaction ends. Walks: a copy of a row of one int, and of none. Walks: puts that rise; a version more of some blocks, in plain words. Walks: a transaction is taken in by the versions. Walks: a transaction begins, in general. -/
import Derived.Deep.CutBlock
import Derived.Test.YtfodeeejolkkfaaGreatJc
import Derived.Test.YtfodeeejolkkfaaGreatJe
import Derived.Test.YtfodeeejolkkfaaGreatJf
import Derived.Test.YtfodeeejolkkfaaGreatJg
import Derived.Test.YtfodeeejolkkfaaGreatJh
namespace Go.Proofs.YtfodeeejolkkfaaGreat
open Go.RowKit Go.Lib

/-- the frames of the puts. -/
def datL (e num : Nat) (l : List (Int × List UInt8)) : List (List UInt8) := l.map fun x => encF 1 e num x.1.toNat x.2
/-- what the last frame tells. -/
def bodL (k n : Nat) : List UInt8 := leB k 8 ++ [1, 0, 0, UInt8.ofNat n]
def batL (e num k : Nat) (l : List (Int × List UInt8)) : List (List UInt8) := datL e num l ++ [encF 2 e num l.length (bodL k l.length)]
theorem datL_length (e num : Nat) (l : List (Int × List UInt8)) : (datL e num l).length = l.length := by simp [datL]
theorem batL_length (e num k : Nat) (l : List (Int × List UInt8)) : (batL e num k l).length = l.length + 1 := by simp [batL, datL_length]
theorem own_of_row {w : World} {base e g : Nat} {r : List UInt8} (h : w.heap[g]? = some (.cells (Lib.byteCells r).toArray e (0, 0))) (hb : base ≤ g) (hr : r.length ≤ 1000) {n : Nat} (hn : r.length = n) : w.ownsRow base e 1 (.slice (some ⟨g, 0, none⟩) n n) n (Lib.byteCells r) := by
  subst hn
  exact ⟨by simp [Lib.byteCells], .inr ⟨g, r.length, _, rfl, hb, h, Nat.le_refl _, by unfold maxLen; omega, by simp [Lib.byteCells], by rw [List.take_of_length_le (by simp [Lib.byteCells])]⟩⟩
set_option maxRecDepth 100000 in
theorem put64_own (w : World) (v : Nat) (hv : v < 18446744073709551616) {base : Nat} (hb : base ≤ w.heap.size) : Calls Tryz.prog 114 #[.int .u64 v] w fun e w' => ∃ g, e = .returned (.slice (some ⟨g, 0, none⟩) 8 8) ∧ Chg [] w w' ∧ w'.ownsRow base 5 1 (.slice (some ⟨g, 0, none⟩) 8 8) 8 (Lib.byteCells (leB v 8)) := by
  have HP := Lib.hid (bput_any w v 8 (by omega) hv (fun w => by kernel_rfl))
  go_enter Tryz.func114, Tryz.ntmps114
  go_wp2_with fail
  refine HP.out.mono ?_
  rintro e w' ⟨g, rfl, h1, h2, h3⟩
  rw [rowL_full] at h2
  have h4 := own_of_row h2 (Nat.le_trans hb h3) (by rw [leB_length]; decide) (leB_length _ _)
  clear h2
  go_wp2_with fail
  go_ret
  exact ⟨g, rfl, h1, h4⟩
/-- one byte is put behind an own row, as a step of a region that draws. -/
theorem step_append_u8 {ops : Array Oper} {o : Oper} {a : Act} {w : World} {K : Act → World → Prop} {Q : Exit → Act → World → Prop} {E : Prop} (hgd : o.guard = none) (s x : Operand)
    (ho : o.op = .call { callee := .builtin .append, args := #[s, x], argTypes := #[23, 23] }) (base : Nat) (v : Value) (n : Nat) (xs : List UInt8) (hs : a.eval s = v) (hown : w.ownsRow base 5 1 v n (Lib.byteCells xs)) (b c : Nat) (u : UInt8)
    (hx : a.eval x = .slice (some ⟨b, 0, none⟩) 1 c) (c0 : w.cell? ⟨b, 0, none⟩ = some (.int .u8 u.toNat)) (hn : n ≤ 1000000) (hbase : base ≤ w.heap.size)
    (h : ∀ g cap w', w'.ownsRow base 5 1 (.slice (some ⟨g, 0, none⟩) (n + 1) cap) (n + 1) (Lib.byteCells (xs ++ [u])) → Below base w w' → K (a.put o.dst (.slice (some ⟨g, 0, none⟩) (n + 1) cap)) w') :
    if Region.wanted o (yielded ops a.tmps) = true then Oper.wp Tryz.prog o a w K Q else E := by
  obtain ⟨i, hi0, hz, hz1, hz2⟩ := info_parts inf5c
  refine step_append_lies w hgd s x 23 ho base 5 i _ 1 1 ty23 hi0 hz hz1 hz2 rfl (by decide) v n _ hs hown ⟨b, 0, none⟩ 1 c [.int .u8 u.toNat] hx rfl ?_ ?_ (by decide) (by unfold maxLen; omega) (by omega) hbase _ rfl ?_
  · intro j u' hu
    rw [add_lit, Nat.zero_add]
    match j with
    | 0 => cases hu; exact c0
    | j + 1 => simp at hu
  · intro u' hu
    simp at hu
    rcases hu with rfl
    rfl
  · intro g cap w' h2 h3 h4 _
    refine h g cap w' (by rw [byteCells_app]; exact h2) (below_grown hown h3 hbase)
theorem RowsAt.app {w0 w' : World} {base gb cb n : Nat} {v v' : Value} {l : List (List UInt8)} {b : List UInt8} {xs : List Value} (hx : ∀ i (h : i < l.length), ∃ g c, xs[i]? = some (.slice (some ⟨g, 0, none⟩) 64 c) ∧ Bs w0 (some ⟨g, 0, none⟩) l[i] ∧ l[i].length = 64 ∧ Bt w0 g)
    (hn : l.length = n) (ho : w0.ownsRow base 23 1 v n xs) (ha : AppendedV base 23 1 w0 v (n + 1) (xs ++ [.slice (some ⟨gb, 0, none⟩) 64 cb]) v' w') (hb : Bs w0 (some ⟨gb, 0, none⟩) b) (hb4 : b.length = 64) (hbt : Bt w0 gb) : RowsAt w' base v' (l ++ [b]) := by
  subst hn
  obtain ⟨g, c, rfl⟩ := own_some ha.1 (by omega)
  exact RowsAt.push hx (by have := ho.1; omega) (fun g hg => (own_elem ho hg).2) ha.1 (Chg.own ha.2.2 (fun g hg _ => by simp [hg])) hb hb4 hbt
theorem RowsAt.keep0 {w w' : World} {base : Nat} {v : Value} {l : List (List UInt8)} (h : RowsAt w base v l) (hc : Chg [] w w') : RowsAt w' base v l := h.keep hc (Av.nil _ _) (fun _ _ => by simp)
theorem own_unique {w : World} {base e size n : Nat} {v : Value} {xs ys : List Value} (h : w.ownsRow base e size v n xs) (k : w.ownsRow base e size v n ys) : xs = ys := by
  obtain ⟨h1, h2⟩ := h
  obtain ⟨k1, k2⟩ := k
  rcases h2 with ⟨rfl, h0⟩ | ⟨g, cap, cur, rfl, hb, hg, hc, hm, hz, ht⟩
  · subst h0
    rw [Nat.zero_mul, List.length_eq_zero_iff] at h1 k1
    rw [h1, k1]
  · rcases k2 with ⟨e, _⟩ | ⟨g', cap', cur', e, hb', hg', hc', hm', hz', ht'⟩
    · cases e
    · cases e
      rw [hg] at hg'
      cases hg'
      rw [← ht, ← ht']
/-- none of the rows' bytes lie in the block nb. -/
def Away (w : World) (base : Nat) (v : Value) (n : Nat) (nb : Option Nat) : Prop := ∀ xs, w.ownsRow base 23 1 v n xs → ∀ x ∈ xs, ∀ g c, x = .slice (some ⟨g, 0, none⟩) 64 c → some g ≠ nb
theorem Away.nil (w : World) (base : Nat) (nb : Option Nat) : Away w base (.slice none 0 0) 0 nb := by
  intro xs h x hx
  have := h.1
  rw [Nat.zero_mul, List.length_eq_zero_iff] at this
  subst this
  cases hx
theorem Away.keep {w w' : World} {T : List Nat} {base : Nat} {v : Value} {l : List (List UInt8)} {nb : Option Nat} (h : Away w base v l.length nb) (hr : RowsAt w base v l) (hc : Chg T w w') (hT : Av w T [23]) : Away w' base v l.length nb := by
  intro ys ho
  obtain ⟨xs, hx, -⟩ := hr
  have := own_unique (ownsRow_av hx hc hT) ho
  subst this
  exact h _ hx
theorem Away.app {w0 w' : World} {base gb cb n : Nat} {v v' : Value} {nb : Option Nat} {xs : List Value} (h : Away w0 base v n nb) (ho : w0.ownsRow base 23 1 v n xs) (ha : w'.ownsRow base 23 1 v' (n + 1) (xs ++ [.slice (some ⟨gb, 0, none⟩) 64 cb])) (hb : some gb ≠ nb) : Away w' base v' (n + 1) nb := by
  intro ys hy x hx
  have := own_unique ha hy
  subst this
  rw [List.mem_append, List.mem_singleton] at hx
  rcases hx with hx | rfl
  · exact h _ ho x hx
  · intro g c e
    cases e
    exact hb
theorem RowsAt.base {w : World} {b b' : Nat} {v : Value} {l : List (List UInt8)} (h : RowsAt w b v l) (hb : b' ≤ b) : RowsAt w b' v l := by
  obtain ⟨xs, h1, h2⟩ := h
  exact ⟨xs, own_base h1 hb, h2⟩
theorem Away.base {w : World} {b b' : Nat} {v : Value} {l : List (List UInt8)} {nb : Option Nat} (h : Away w b v l.length nb) (hr : RowsAt w b v l) (hb : b' ≤ b) : Away w b' v l.length nb := by
  intro ys ho
  obtain ⟨xs, hx, -⟩ := hr
  have := own_unique (own_base hx hb) ho
  subst this
  exact h _ hx
/-- bytes are put behind an own row in one block; the rows lie in others. -/
theorem rows_grow {w w' : World} {base z n g : Nat} {v v7 : Value} {l : List (List UInt8)} {bs : List Value} (h : RowsAt w base v l) (hA : Away w base v l.length v7.ownBlock) (ho : w.ownsRow z 5 1 v7 n bs) (hg : w.grownBy w' v7.ownBlock) (hi : v7.ownBlock = some g ∨ g = w.heap.size) :
    RowsAt w' base v l ∧ Away w' base v l.length (some g) := by
  obtain ⟨xs, hx, he⟩ := h
  have hc : Chg v7.ownBlock.toList w w' := Chg.own hg (fun g hg _ => by simp [hg])
  have hT : Av w v7.ownBlock.toList [23] := by
    intro x hx cs t fr hh ht
    have hx' : v7.ownBlock = some x := by simpa using hx
    obtain ⟨-, cur, h5⟩ := own_elem ho hx'
    rw [hh] at h5
    cases h5
    simp at ht
  have hx' := ownsRow_av hx hc hT
  have hmem : ∀ i (hi : i < l.length), ∀ g c, xs[i]? = some (.slice (some ⟨g, 0, none⟩) 64 c) → g ∉ v7.ownBlock.toList := by
    intro i hi g c hxi hm
    have hm' : v7.ownBlock = some g := by simpa using hm
    exact hA _ hx _ (List.mem_of_getElem? hxi) g c rfl hm'.symm
  refine ⟨⟨xs, hx', fun i hil => ?_⟩, fun ys hy x hxm g' c' e => ?_⟩
  · obtain ⟨g1, c1, h1, h2, h3, h4⟩ := he i hil
    have := hmem i hil g1 c1 h1
    exact ⟨g1, c1, h1, h2.chgT hc this, h3, h4.keep hc this⟩
  · have := own_unique hx' hy
    subst this
    subst e
    obtain ⟨i, hil, hxi⟩ := List.mem_iff_getElem?.1 hxm |>.imp fun i hi => (⟨by
      have h1 := hx.1
      rw [Nat.mul_one] at h1
      rw [← h1]
      exact (List.getElem?_eq_some_iff.1 hi).1, hi⟩ : i < l.length ∧ xs[i]? = _)
    obtain ⟨g1, c1, h1, -, -, cs, h4⟩ := he i hil
    rw [h1] at hxi
    cases hxi
    rcases hi with hi | rfl
    · rw [← hi]
      exact fun e => hmem i hil _ _ h1 (by simp [e.symm])
    · have := heap_lt h4
      intro e
      cases e
      omega
/-- bytes are put behind an own row. -/
theorem wpList_append_u8 {ops : Array Oper} {rest : List Oper} {o : Oper} {a : Act} {w : World} {Q : Exit → Act → World → Prop} (hgd : o.guard = none) (s x : Operand)
    (ho : o.op = .call { callee := .builtin .append, args := #[s, x], argTypes := #[23, 23] }) (base : Nat) (v : Value) (n : Nat) (xs : List UInt8) (hs : a.eval s = v) (hown : w.ownsRow base 5 1 v n (Lib.byteCells xs)) (b c m : Nat) (r : List UInt8) (hm : r.length = m) (hm0 : 0 < m)
    (hx : a.eval x = .slice (some ⟨b, 0, none⟩) m c) {C : Array Value} {fr : Nat × Nat} (hC : w.heap[b]? = some (.cells C 5 fr)) (hCr : C.toList = Lib.byteCells r) (hn : n + m ≤ 1000000) (hbase : base ≤ w.heap.size)
    (h : ∀ g cap w', w'.ownsRow base 5 1 (.slice (some ⟨g, 0, none⟩) (n + m) cap) (n + m) (Lib.byteCells (xs ++ r)) → w.grownBy w' v.ownBlock → (v.ownBlock = some g ∨ g = w.heap.size) → wpList Tryz.prog ops Q rest (a.put o.dst (.slice (some ⟨g, 0, none⟩) (n + m) cap)) w') : wpList Tryz.prog ops Q (o :: rest) a w := by
  obtain ⟨i, hi0, hz, hz1, hz2⟩ := info_parts inf5c
  refine wpList_append_lies w hgd s x 23 ho base 5 i _ 1 1 ty23 hi0 hz hz1 hz2 rfl (by decide) v n _ hs hown ⟨b, 0, none⟩ m c (Lib.byteCells r) hx (by rw [byteCells_length, hm, Nat.mul_one]) ?_ ?_ hm0 (by unfold maxLen; omega) (by omega) hbase _ rfl ?_
  · rw [← hCr]; exact World.news_of_block hC
  · intro u hu
    simp only [Lib.byteCells, List.mem_map] at hu
    obtain ⟨x, _, rfl⟩ := hu
    rfl
  · intro g cap w' h2 h3 h4 _
    exact h g cap w' (by rw [byteCells_app]; exact h2) h3 h4
set_option maxRecDepth 100000 in
set_option maxHeartbeats 4000000 in
theorem bencode_one (w : World) {lo e num k : Nat} {v : Value} {l : List (Int × List UInt8)} (h : TxOne w lo v k l) (hn0 : 1 ≤ num) (hn1 : num ≤ 1099511627776) (hk0 : 1 ≤ k) (hk1 : k ≤ 1099511627776) (he : e < 4294967296) (hl0 : 0 < l.length) (hl : l.length ≤ 16) (hr : Rise l) (hk : ∀ x ∈ l, 0 ≤ x.1 ∧ x.1 < 258) :
    Calls Tryz.prog 101 #[.agg #[.int .i64 num, v], .int .i64 e] w fun r w' => ∃ v', r = .returned (.tuple #[v', .int .i64 0]) ∧ Chg [] w w' ∧ RowsAt w' w.heap.size v' (batL e num k l) := by
  have k0 : Chg [] w (w.alloc (.cells #[.int .i64 num, v] 102)) := Chg.alloc w _
  have K0 := heap_new w (.cells #[.int .i64 num, v] 102)
  have h1 := h.keep k0
  obtain ⟨g, c, pb, cb, rfl, hc1, -, -, c0, c1, hcb, hp⟩ := h1.open_
  have b0 : (w.alloc (.cells #[.int .i64 num, .slice (some ⟨g, 0, none⟩) 1 c] 102)).cell? ⟨w.heap.size, 0, none⟩ = some (.int .i64 num) := cell_is K0 0 rfl
  have b1 : (w.alloc (.cells #[.int .i64 num, .slice (some ⟨g, 0, none⟩) 1 c] 102)).cell? ⟨w.heap.size, 1, none⟩ = some (.slice (some ⟨g, 0, none⟩) 1 c) := cell_is K0 1 rfl
  have e0 : decide ((e : Int) < 0) = false := decide_eq_false (by omega)
  have e1 : decide (4294967295 < (e : Int)) = false := decide_eq_false (by omega)
  have HO := Lib.hid (bcheck_one _ h1 (num := num) (by omega) (by omega) (by omega) (by omega) hl0 hl hr hk)
  have HP := Lib.hid hp
  have HK := Lib.hid hk
  have HL := Lib.hid (And.intro hl0 hl)
  have HE := Lib.hid he
  have HN := Lib.hid hn1
  have HC := Lib.hid hk1
  have H64 := Lib.hid (show k < 18446744073709551616 by omega)
  have ku : IntKind.u64.wrap (k : Int) = k := by rw [IntKind.wrap_u64]; omega
  have hz0 : w.heap.size ≤ (w.alloc (.cells #[.int .i64 num, .slice (some ⟨g, 0, none⟩) 1 c] 102)).heap.size := k0.size
  clear h h1 hp hr hk hl0 hl he hn0 hn1 hk0 hk1
  go_enter Tryz.func101, Tryz.ntmps101
  go_wp2_with fail
  generalize w.alloc (.cells #[.int .i64 num, .slice (some ⟨g, 0, none⟩) 1 c] 102) = w1 at *
  generalize hz : w.heap.size = z at *
  refine HO.out.mono ?_
  rintro e w2 ⟨rfl, k2⟩
  have b02 := k2.cell b0 (by simp)
  have b12 := k2.cell b1 (by simp)
  have c02 := k2.cell c0 (by simp)
  have c12 := k2.cell c1 (by simp)
  have k02 := k0.then k2
  have HP2 := Lib.hid (HP.out.keep0 k2)
  have hz2 : z ≤ w2.heap.size := hz ▸ k02.size
  clear HO HP b0 b1 c0 c1 k0 k2 K0
  go_upto_region 4 with fail
  have kD0 : Chg [] w2 w2.drew := (Chg.refl [] w2).drew
  have b12d : w2.drew.cell? ⟨z, 1, none⟩ = some (.slice (some ⟨g, 0, none⟩) 1 c) := b12
  have hS : ∀ wx, Chg [] w2 wx → wx.cell? ⟨z, 1, none⟩ = some (.slice (some ⟨g, 0, none⟩) 1 c) := fun wx kx => kx.cell b12 (by simp)
  go_cut [7] from 8 (fun v wx => Chg [] w2 wx ∧ wx.ownsRow w2.heap.size 5 1 v 9 (Lib.byteCells (leB k 8 ++ [1])))
  case first =>
    go_region_held3 (fun wx => wx.cell? ⟨z, 1, none⟩ = some (.slice (some ⟨g, 0, none⟩) 1 c))
      (first | (with_reducible exact hS _ kD0) | (with_reducible exact hS _ kB1) | (with_reducible exact hS _ (kD0.then_alloc _)) | (with_reducible exact hS _ (kB1.then_alloc _)) | (with_reducible exact hS _ (Chg.alloc w2 _)) | (with_reducible exact hS _ (Chg.alloc w2 _).drew) | (with_reducible exact hS _ kF))
      (first
        | (go_at_call 114; refine (put64_own _ k H64.out (base := w2.heap.size) (by first | exact kD0.size | exact (kD0.then_alloc _).size | exact ((Chg.alloc (S := []) w2 _).drew).size)).mono ?_; rintro e wB ⟨gB, rfl, kB, oB⟩; have kB1 : Chg [] w2 wB := (by first | with_reducible exact kD0.then kB | with_reducible exact ((Chg.alloc w2 _).drew).then kB | with_reducible exact (kD0.then_alloc _).then kB))
        | (refine step_append_u8 rfl (.tmp 38) (.tmp 43) rfl w2.heap.size _ 8 _ rfl (ownsRow_chg oB (Chg.alloc (S := []) wB _)) wB.heap.size 1 1 rfl (cell_is (heap_new wB _) 0 rfl) (by decide) (kB1.then_alloc _).size ?_; intro g5 cp5 w5 o5 k5; have kF : Chg [] w2 w5 := Chg.of_below (((kB1.then_alloc _).below (Nat.le_refl _) (by simp)).trans k5))
        | (refine step_append_u8 rfl (.tmp 38) (.tmp 43) rfl w2.heap.size _ 8 _ rfl oB w2.heap.size 1 1 rfl (kB.cell (cell_is (heap_new w2 _) 0 rfl) (by simp)) (by decide) kB1.size ?_; intro g5 cp5 w5 o5 k5; have kF : Chg [] w2 w5 := Chg.of_below ((kB1.below (Nat.le_refl _) (by simp)).trans k5)))
    all_goals
      go_wp2_with fail
      go_meet
      exact ⟨kF, o5⟩
  case rest =>
    obtain ⟨kw, oz⟩ := hcut
    obtain ⟨p7, c7, rfl, -⟩ := own_form oz
    have b0w := kw.cell b02 (by simp)
    have b1w := kw.cell b12 (by simp)
    have c0w := kw.cell c02 (by simp)
    have c1w := kw.cell c12 (by simp)
    have HPw := Lib.hid (HP2.out.keep0 kw)
    have HOz := Lib.hid oz
    have hzw : w2.heap.size ≤ wc.heap.size := kw.size
    clear oz hS kD0 b12d
    go_wp2_with fail
    go_loopw [4, 7, 8, 10, 12, 13, 14, 15, 49] (fun v4 v7 v8 _ _ _ _ _ i wr => (i = .int .i64 0 ∧ wc = wr ∧ v4 = .slice none 0 0 ∧ v7 = .slice p7 9 c7 ∧ v8 = .int .i64 k) ∨ (i = .int .i64 1 ∧ Chg [] w2 wr ∧ RowsAt wr w2.heap.size v4 (datL e num l) ∧ Away wr w2.heap.size v4 (datL e num l).length v7.ownBlock ∧ wr.ownsRow w2.heap.size 5 1 v7 11 (Lib.byteCells (leB k 8 ++ [1, 0, 0])))) (fun _ _ _ _ _ _ _ _ i _ => 1 - (intOf i).toNat)
    case atStart => exact Or.inl ⟨rfl, rfl, rfl, rfl, rfl⟩
    case round =>
      rcases hrel with ⟨rfl, rfl, rfl, rfl, rfl⟩ | ⟨rfl, kr, hv4, hva, hv7⟩
      · have ka : Chg [] wc (wc.alloc (.cells #[.int .i64 k, .slice pb l.length cb] 189)) := Chg.alloc wc _
        have A0 := heap_new wc (.cells #[.int .i64 k, .slice pb l.length cb] 189)
        go_wp2_with fail
        have a0 : (wc.alloc (.cells #[.int .i64 k, .slice pb l.length cb] 189)).cell? ⟨wc.heap.size, 0, none⟩ = some (.int .i64 k) := cell_is A0 0 rfl
        have b0a := ka.cell b0w (by simp)
        have HPa := Lib.hid (HPw.out.keep0 ka)
        have HOa := Lib.hid (ownsRow_chg HOz.out ka)
        have hza : w2.heap.size ≤ (wc.alloc (.cells #[.int .i64 k, .slice pb l.length cb] 189)).heap.size := Nat.le_trans hzw ka.size
        have kwa := kw.then ka
        generalize wc.alloc (.cells #[.int .i64 k, .slice pb l.length cb] 189) = w4 at *
        generalize wc.heap.size = z4 at *
        clear A0
        go_loopw [4, 12, 13, 14, 56] (fun v _ _ _ i wy => ∃ j : Nat, j ≤ l.length ∧ i = .int .i64 j ∧ Chg [] w4 wy ∧ RowsAt wy w4.heap.size v (datL e num (l.take j)) ∧ Away wy w4.heap.size v (datL e num (l.take j)).length (Value.slice p7 9 c7).ownBlock) (fun _ _ _ _ i _ => l.length - (intOf i).toNat)
        case atStart => exact ⟨0, by omega, rfl, Chg.refl _ _, RowsAt.nil _ _, Away.nil _ _ _⟩
        case round =>
          obtain ⟨j, hj, rfl, ky, hrow, haw⟩ := hrel
          by_cases hlt : j < l.length
          · obtain ⟨gp, cap, gd, cd, hpv, hcap, d0, d1, hbd, h40, hbt⟩ := (HPa.out.keep0 ky).get j hlt
            injection hpv with e1 e2 e3
            subst e1 e3
            obtain ⟨hx0, hx1⟩ := HK.out _ (List.getElem_mem hlt)
            have HTk := Lib.hid (show datL e num (l.take (j + 1)) = datL e num (l.take j) ++ [encF 1 e num (l[j]).1.toNat (l[j]).2] by unfold datL; rw [List.take_succ_eq_append_getElem hlt, List.map_append]; rfl)
            have hxe : (l[j]).1 = (((l[j]).1.toNat : Nat) : Int) := by omega
            have hx2 : (l[j]).1.toNat ≤ 1048576 := by omega
            have H40 := Lib.hid h40
            have Hbd := Lib.hid hbd
            have HR := Lib.hid hrow
            have HAw := Lib.hid haw
            have HO9 := Lib.hid (ownsRow_chg HOa.out ky)
            have hl16 : l.length ≤ 16 := HL.out.2
            rw [hxe] at d0
            have hdl : (datL e num (l.take j)).length = j := by rw [datL_length, List.length_take]; omega
            clear hbd h40 hrow hx0 hx1 hxe hbt haw
            generalize (l[j]).1.toNat = x at *
            generalize (l[j]).2 = q at *
            have b0y := ky.cell b0a (by simp)
            have kl : Chg [] wr (wr.alloc (.cells #[.int .i64 x, .slice (some ⟨gd, 0, none⟩) 40 cd] 92)) := Chg.alloc wr _
            have L0 := heap_new wr (.cells #[.int .i64 x, .slice (some ⟨gd, 0, none⟩) 40 cd] 92)
            have l0 : (wr.alloc (.cells #[.int .i64 x, .slice (some ⟨gd, 0, none⟩) 40 cd] 92)).cell? ⟨wr.heap.size, 0, none⟩ = some (.int .i64 x) := cell_is L0 0 rfl
            have l1 : (wr.alloc (.cells #[.int .i64 x, .slice (some ⟨gd, 0, none⟩) 40 cd] 92)).cell? ⟨wr.heap.size, 1, none⟩ = some (.slice (some ⟨gd, 0, none⟩) 40 cd) := cell_is L0 1 rfl
            have b0l := kl.cell b0y (by simp)
            go_wp2_with fail
            generalize wr.alloc (.cells #[.int .i64 x, .slice (some ⟨gd, 0, none⟩) 40 cd] 92) = wl at *
            generalize wr.heap.size = zl at *
            clear L0
            go_wp2_with fail
            refine (fencode_any wl (kind := 1) (by decide) (by decide) HE.out HN.out hx2 H40.out (by decide) (Hbd.out.chg kl)).mono ?_
            rintro r w5 ⟨g5, c5, rfl, k5, hg5, b5, t5⟩
            have k4y : Chg [] w4 w5 := (ky.then kl).then k5
            have hz5 : w4.heap.size ≤ w5.heap.size := k4y.size
            obtain ⟨xs, ho5, hx5⟩ := HR.out.keep0 (kl.then k5)
            rw [hdl] at ho5
            have hA5 := HAw.out.keep HR.out (kl.then k5) (Av.nil _ _)
            rw [hdl] at hA5
            have HA5 := Lib.hid hA5
            have HG5 := Lib.hid (show some g5 ≠ (Value.slice p7 9 c7).ownBlock from fun e5 => by
              obtain ⟨-, cs5, h5⟩ := own_elem (ownsRow_chg HO9.out kl) e5.symm
              have := heap_lt h5
              omega)
            have HO5 := Lib.hid ho5
            have HX5 := Lib.hid hx5
            have B5 := Lib.hid b5
            have T5 := Lib.hid t5
            have E5 := Lib.hid (encF_length 1 e num x q (by rw [H40.out]; decide))
            clear ho5 hx5 b5 t5 HR hA5 HAw HO9
            go_wp2_with (at_builtin; refine wpList_append_lit rfl (.tmp 72) (.tmp 74) 132 23 rfl ty132 inf23 rfl (by decide) w4.heap.size w5 [.slice (some ⟨g5, 0, none⟩) 64 c5] 1 rfl _ j xs rfl HO5.out (by have := HL.out.2; omega) (by decide) hz5 (k := 0) rfl (by simp [Value.oneCell']) rfl 1 rfl ?_; intro v' w6 hap)
            have hfin := RowsAt.app HX5.out hdl HO5.out hap B5.out E5.out T5.out
            have hfa := Away.app HA5.out HO5.out hap.1 HG5.out
            have hdl2 : (datL e num (l.take (j + 1))).length = j + 1 := by rw [HTk.out, List.length_append, hdl]; rfl
            rw [← HTk.out] at hfin
            rw [← hdl2] at hfa
            have k6 : Chg [] w4 w6 := Chg.of_below (k4y.below0.trans hap.2.1)
            go_roundw
            case rel => exact ⟨j + 1, by omega, by go_num, k6, hfin, hfa⟩
            case measure => simp [intOf]; omega
          · obtain rfl : j = l.length := by omega
            rw [List.take_length] at hrow haw
            have HRy := Lib.hid hrow
            have HAy := Lib.hid haw
            have a0y := ky.cell a0 (by simp)
            have hzy := Nat.le_trans hza ky.size
            have kwy := kwa.then ky
            have HOy := Lib.hid (ownsRow_chg HOa.out ky)
            clear hrow haw
            have kt : Chg [] wr (wr.alloc (.cells #[.int .u8 0, .int .u8 0] 5)) := Chg.alloc wr _
            go_wp2_with (at_builtin; refine wpList_append_u8 rfl (.tmp 83) (.tmp 89) rfl w2.heap.size _ 9 _ rfl (ownsRow_chg HOy.out kt) wr.heap.size 2 2 [0, 0] rfl (by decide) rfl (heap_new wr _) rfl (by decide) (Nat.le_trans hzy kt.size) ?_; intro g6 c6 w6 o6 k6 i6)
            obtain ⟨hr6, ha6⟩ := rows_grow (HRy.out.keep0 kt) (HAy.out.keep HRy.out kt (Av.nil _ _)) (ownsRow_chg HOy.out kt) k6 i6
            have kf : Chg [] w2 w6 := Chg.of_below ((kwy.then kt).below0.trans (below_grown (ownsRow_chg HOy.out kt) k6 (Nat.le_trans hzy kt.size)))
            go_roundw
            case rel => exact Or.inr ⟨rfl, kf, hr6.base hza, ha6.base hr6 hza, o6⟩
            case measure => decide
      · obtain ⟨p8, c8, rfl, -⟩ := own_form hv7
        obtain ⟨xs4, ho4, hx4⟩ := hv4
        obtain ⟨p4, c4, rfl, hc4⟩ := own_form ho4
        have HR := Lib.hid (show RowsAt wr w2.heap.size (.slice p4 (datL e num l).length c4) (datL e num l) from ⟨xs4, ho4, hx4⟩)
        have HAw := Lib.hid hva
        have HO7 := Lib.hid hv7
        have b0r := kr.cell b02 (by simp)
        have b1r := kr.cell b12 (by simp)
        have c0r := kr.cell c02 (by simp)
        have c1r := kr.cell c12 (by simp)
        have hzr := kr.size
        have hu8 : IntKind.u8.wrap (l.length : Int) = l.length := by have := HL.out.2; rw [IntKind.wrap_u8]; omega
        clear hva hv7 ho4 hx4
        go_wp2_with fail
        go_loopw [7, 17, 95] (fun v7 _ i wx => (i = .int .i64 0 ∧ wr = wx ∧ v7 = .slice p8 11 c8) ∨ (i = .int .i64 1 ∧ Chg [] w2 wx ∧ RowsAt wx w2.heap.size (.slice p4 (datL e num l).length c4) (datL e num l) ∧ wx.ownsRow w2.heap.size 5 1 v7 12 (Lib.byteCells (bodL k l.length)))) (fun _ _ i _ => 1 - (intOf i).toNat)
        case atStart => exact Or.inl ⟨rfl, rfl, rfl⟩
        case round =>
          rename World => wz
          rcases hrel with ⟨rfl, rfl, rfl⟩ | ⟨rfl, kz, hv4, hv7⟩
          · have ka : Chg [] wr (wr.alloc (.cells #[.int .i64 k, .slice pb l.length cb] 189)) := Chg.alloc wr _
            have A0 := heap_new wr (.cells #[.int .i64 k, .slice pb l.length cb] 189)
            have L0 := (two_new wr (.cells #[.int .i64 k, .slice pb l.length cb] 189) (.cells #[.int .u8 l.length] 5)).2
            have kt := ka.then_alloc (.cells #[.int .u8 l.length] 5)
            have HLn := Lib.hid (show (#[Value.int .u8 l.length]).toList = Lib.byteCells [UInt8.ofNat l.length] by
              have e1 : (UInt8.ofNat l.length).toNat = l.length := by have := HL.out.2; simp; omega
              simp only [Lib.byteCells, List.map_cons, List.map_nil, e1])
            have hBd := Lib.hid (show leB k 8 ++ [1, 0, 0] ++ [UInt8.ofNat l.length] = bodL k l.length by simp [bodL])
            go_wp2_with (at_builtin; refine wpList_append_u8 rfl (.tmp 99) (.tmp 104) rfl w2.heap.size _ 11 _ rfl (ownsRow_chg HO7.out kt) (wr.heap.size + 1) 1 1 [UInt8.ofNat l.length] rfl (by decide) rfl L0 HLn.out (by decide) (Nat.le_trans hzr kt.size) ?_; intro g6 c6 w6 o6 k6 i6)
            obtain ⟨hr6, ha6⟩ := rows_grow (HR.out.keep0 kt) (HAw.out.keep HR.out kt (Av.nil _ _)) (ownsRow_chg HO7.out kt) k6 i6
            rw [hBd.out] at o6
            have kf : Chg [] w2 w6 := Chg.of_below ((kr.then kt).below0.trans (below_grown (ownsRow_chg HO7.out kt) k6 (Nat.le_trans hzr kt.size)))
            go_roundw
            case rel => exact Or.inr ⟨rfl, kf, hr6, o6⟩
            case measure => decide
          · obtain ⟨p9, c9, rfl, -⟩ := own_form hv7
            have b0z := kz.cell b02 (by simp)
            have HRz := Lib.hid hv4
            have H9 := Lib.hid (Bs.own hv7)
            have hbl : (bodL k l.length).length = 12 := by simp [bodL, leB_length]
            have HLz := Lib.hid hbl
            have hdl : (datL e num l).length = l.length := datL_length _ _ _
            clear hv7 hbl
            go_wp2_with fail
            refine (fencode_any wz (kind := 2) (lba := l.length) (by decide) (by decide) HE.out HN.out (by have := HL.out.2; omega) HLz.out (by decide) H9.out).mono ?_
            rintro r w5 ⟨g5, c5, rfl, k5, hg5, b5, t5⟩
            have kz5 := kz.then k5
            obtain ⟨xs, ho5, hx5⟩ := HRz.out.keep0 k5
            rw [hdl] at ho5
            have HO5 := Lib.hid ho5
            have HX5 := Lib.hid hx5
            have B5 := Lib.hid b5
            have T5 := Lib.hid t5
            have E5 := Lib.hid (encF_length 2 e num l.length (bodL k l.length) (by rw [HLz.out]; decide))
            clear ho5 hx5 b5 t5 hv4
            go_wp2_with (at_builtin; refine wpList_append_lit rfl (.tmp 118) (.tmp 120) 132 23 rfl ty132 inf23 rfl (by decide) w2.heap.size w5 [.slice (some ⟨g5, 0, none⟩) 64 c5] 1 rfl _ l.length xs rfl HO5.out (by have := HL.out.2; omega) (by decide) kz5.size (k := 0) rfl (by simp [Value.oneCell']) rfl 1 rfl ?_; intro v' w6 hap)
            have hfin := RowsAt.app HX5.out hdl HO5.out hap B5.out E5.out T5.out
            have k6 : Chg [] w w6 := k02.then (Chg.of_below (kz5.below0.trans hap.2.1))
            have HF := Lib.hid (show RowsAt w6 z v' (batL e num k l) from hfin.base hz2)
            clear hfin hap
            go_wp2_with fail
            go_ret2
            exact ⟨_, rfl, k6, by rw [hz]; exact HF.out⟩
end Go.Proofs.YtfodeeejolkkfaaGreat
namespace Go.Proofs.YtfodeeejolkkfaaGreat
open Go.RowKit Go.Lib

/-- block P is a store on the device N: where its log stands, how many batches it has. -/
def StoreG (w : World) (P N S M : Nat) (pos num : Nat) : Prop :=
  w.heap[P]? = some (.cells #[.pointer (some ⟨N, 0, none⟩), .int .i64 0, .int .i64 3, .int .i64 6, .int .i64 7, .pointer (some ⟨M, 0, none⟩), .pointer (some ⟨S, 0, none⟩), .int .i64 pos, .int .i64 num, .bool false] 99 (0, 0))
theorem RowsAt.get {w : World} {base : Nat} {v : Value} {l : List (List UInt8)} (h : RowsAt w base v l) (k : Nat) (hk : k < l.length) : ∃ g cap gd cd, v = .slice (some ⟨g, 0, none⟩) l.length cap ∧ l.length ≤ cap ∧
    w.cell? ⟨g, k, none⟩ = some (.slice (some ⟨gd, 0, none⟩) 64 cd) ∧ Bs w (some ⟨gd, 0, none⟩) l[k] ∧ l[k].length = 64 ∧ Bt w gd := by
  obtain ⟨xs, ho, hx⟩ := h
  obtain ⟨gd, cd, h1, h2, h3, h4⟩ := hx k hk
  rcases ho.2 with ⟨_, e⟩ | ⟨g, cap, cur, rfl, hA, hg, hc1, hc2, hc3, ht⟩
  · omega
  · refine ⟨g, cap, gd, cd, rfl, hc1, cell_is hg _ ?_, h2, h3, h4⟩
    rw [← ht, List.getElem?_take_of_lt (by omega), Array.getElem?_toList] at h1
    exact h1
theorem upF_self {α : Type} (f : Nat → α) (j : Nat) : upF f j (f j) = f := by
  funext k
  unfold upF
  split
  · rename_i h; rw [h]
  · rfl
theorem upF_twice {α : Type} (f : Nat → α) (j : Nat) (x y : α) : upF (upF f j x) j y = upF f j y := by
  funext k
  unfold upF
  split <;> rfl
theorem upF_same {α : Type} (f : Nat → α) (j : Nat) (x : α) : upF f j x j = x := by simp [upF]
theorem wrap64_id (x : Int) (h0 : 0 ≤ x) (h1 : x < 4611686018427387904) : wrap64 x = x := by unfold wrap64; omega
theorem pos_wrap (pos n m : Nat) (h : n = m + 1) (hp : pos + n < 1000) : wrap64 ((pos : Int) + (n : Nat)) = ((pos + m + 1 : Nat) : Int) := by
  rw [wrap64_id _ (by omega) (by omega)]
  omega
/-- where the writing of a batch stands: j blocks are written. -/
structure Wl (w wz : World) (base N A c : Nat) (ops : Int) (Z : List Nat) (vs : Nat → Value) (gs : Nat → Nat) (zs : Nat → List (List UInt8)) (z6 : Nat) (P S M pos num lo : Nat) (v : Value) (bl : List (List UInt8)) (j : Nat) : Prop where
  dev : ∃ v6, DevG wz base N A c (ops + j) Z (upF vs 6 v6) gs (upF zs 6 (zs 6 ++ bl.take j)) ∧ (∀ g, v6.ownBlock = some g → (vs 6).ownBlock = some g ∨ w.heap.size ≤ g) ∧ (∀ g, v6.ownBlock = some g → v.ownBlock ≠ some g)
  rows : RowsAt wz lo v bl
  store : StoreG wz P N S M pos num
  chg : Chg (N :: z6 :: (vs 6).ownBlock.toList) w wz
/-- one block more is written. -/
theorem Wl.step {w wz wy : World} {base N A c : Nat} {ops : Int} {Z : List Nat} {vs : Nat → Value} {gs : Nat → Nat} {zs : Nat → List (List UInt8)} {P S M pos num lo : Nat} {v : Value} {bl : List (List UInt8)} {j : Nat} (h6 : 6 < Z.length)
    (hj : j < bl.length) (hrows : RowsAt wz lo v bl) (hstore : StoreG wz P N S M pos num) (hchg : Chg (N :: Z[6] :: (vs 6).ownBlock.toList) w wz) {v6 v' : Value} (hd : DevG wz base N A c (ops + j) Z (upF vs 6 v6) gs (upF zs 6 (zs 6 ++ bl.take j))) (hn1 : ∀ g, v6.ownBlock = some g → (vs 6).ownBlock = some g ∨ w.heap.size ≤ g) (hn2 : ∀ g, v6.ownBlock = some g → v.ownBlock ≠ some g)
    (kc : Chg (N :: Z[6] :: (upF vs 6 v6 6).ownBlock.toList) wz wy) (hd' : DevG wy base N A c (ops + j + 1) Z (upF (upF vs 6 v6) 6 v') gs (upF (upF zs 6 (zs 6 ++ bl.take j)) 6 (upF zs 6 (zs 6 ++ bl.take j) 6 ++ [bl[j]])))
    (hv' : ∀ g, v'.ownBlock = some g → (upF vs 6 v6 6).ownBlock = some g ∨ wz.heap.size ≤ g) : Wl w wy base N A c ops Z vs gs zs Z[6] P S M pos num lo v bl (j + 1) := by
  rw [upF_same] at kc hv'
  rw [upF_twice, upF_twice, upF_same, List.append_assoc, ← List.take_succ_eq_append_getElem hj, show ops + (j : Int) + 1 = ops + ((j + 1 : Nat) : Int) by omega] at hd'
  have hz := hd.zone 6 h6
  have hr6 := hd.rows 6 (by omega)
  rw [upF_same] at hz hr6
  have hb23 := hr6.block
  have hs := hchg.size
  have rb := hrows.block
  have av : Av wz (N :: Z[6] :: v6.ownBlock.toList) [5, 99] := fun x hx cs t fr hh => by
    rcases List.mem_cons.1 hx with rfl | hx
    · rw [hd.hdr] at hh; cases hh; simp
    · rcases List.mem_cons.1 hx with rfl | hx
      · rw [hz] at hh; cases hh; simp
      · obtain ⟨cs2, h2⟩ := hb23 x (by simpa using hx)
        rw [h2] at hh; cases hh; simp
  refine ⟨⟨v', hd', fun g hg => ?_, fun g hg hvg => ?_⟩, hrows.keep kc (fun x hx cs t fr hh ht => av x hx cs t fr hh (by simp at ht; simp [ht])) (fun g hg hm => ?_), kc.heap hstore (av.ne hstore (by simp)), hchg.trans kc (fun x hx hlt => ?_)⟩
  · rcases hv' g hg with h | h
    · exact hn1 g h
    · exact Or.inr (by omega)
  · rcases hv' g hg with h | h
    · exact hn2 g h hvg
    · obtain ⟨cs, h2⟩ := rb g hvg
      have := heap_lt h2
      omega
  · obtain ⟨cs, h2⟩ := rb g hg
    rcases List.mem_cons.1 hm with rfl | hm
    · rw [hd.hdr] at h2; cases h2
    · rcases List.mem_cons.1 hm with rfl | hm
      · rw [hz] at h2; cases h2
      · exact hn2 g (by simpa using hm) hg
  · rcases List.mem_cons.1 hx with rfl | hx
    · exact List.mem_cons_self
    · rcases List.mem_cons.1 hx with rfl | hx
      · exact List.mem_cons_of_mem _ List.mem_cons_self
      · rcases hn1 x (by simpa using hx) with h | h
        · exact List.mem_cons_of_mem _ (List.mem_cons_of_mem _ (by simpa using h))
        · omega
set_option maxRecDepth 100000 in
set_option maxHeartbeats 8000000 in
theorem swrite_log (w : World) {base lo N A c P S M pos num cnt k : Nat} {ops num0 : Int} {Z : List Nat} {vs : Nat → Value} {gs : Nat → Nat} {zs : Nat → List (List UInt8)} {v : Value} {l : List (Int × List UInt8)}
    (hP : StoreG w P N S M pos num) (HL : ∀ w1, Chg [] w w1 → Calls Tryz.prog 80 #[.pointer (some ⟨S, 0, none⟩)] w1 fun e w' => ∃ u, e = .returned (.tuple #[u, .int .i64 cnt]) ∧ Chg [] w1 w')
    (hD : DevG w base N A c ops Z vs gs zs) (h0 : 0 ≤ ops) (h1 : ops ≤ 100000) (hlow : base ≤ N) (hT : TxOne w lo v k l) (hk0 : 1 ≤ k) (hk1 : k ≤ 1099511627776) (hcnt : cnt < 4294967296) (hnum : num < 1099511627776) (hl0 : 0 < l.length) (hl : l.length ≤ 16) (hr : Rise l) (hk : ∀ x ∈ l, 0 ≤ x.1 ∧ x.1 < 258)
    (hroom : (zs 6).length + l.length + 1 ≤ 96) (hpos : pos + l.length + 1 ≤ 96) (h6 : 6 < Z.length) :
    Calls Tryz.prog 56 #[.pointer (some ⟨P, 0, none⟩), .agg #[.int .i64 num0, v]] w fun e w' => e = .returned (.int .i64 0) ∧ Chg (P :: N :: Z ++ (vs 6).ownBlock.toList) w w' ∧ StoreG w' P N S M (pos + l.length + 1) (num + 1) ∧
      ∃ v6, DevG w' base N A c (ops + l.length + 2) Z (upF vs 6 v6) (goodF gs (upF zs 6 (zs 6 ++ batL cnt (num + 1) k l)) 8) (upF zs 6 (zs 6 ++ batL cnt (num + 1) k l)) := by
  obtain ⟨gt, ct, pbt, cbt, rfl, -, -, -, -, -, -, -⟩ := hT.open_
  have k0 : Chg [] w (w.alloc (.cells #[.int .i64 num0, .slice (some ⟨gt, 0, none⟩) 1 ct] 102)) := Chg.alloc w _
  have K0 := heap_new w (.cells #[.int .i64 num0, .slice (some ⟨gt, 0, none⟩) 1 ct] 102)
  have hP0 := k0.heap hP (by simp)
  have p6 : (w.alloc (.cells #[.int .i64 num0, .slice (some ⟨gt, 0, none⟩) 1 ct] 102)).cell? ⟨P, 6, none⟩ = some (.pointer (some ⟨S, 0, none⟩)) := cell_is hP0 6 rfl
  have HL0 := Lib.hid (HL _ k0)
  have HP := Lib.hid hP
  have HD := Lib.hid hD
  have HT := Lib.hid hT
  clear HL hP hD hT
  go_enter Tryz.func56, Tryz.ntmps56
  go_wp2_with fail
  generalize w.alloc (.cells #[.int .i64 num0, .slice (some ⟨gt, 0, none⟩) 1 ct] 102) = w1 at *
  generalize hz : w.heap.size = K at *
  refine HL0.out.mono ?_
  rintro e w2 ⟨u, rfl, k2'⟩
  have k2 := k0.then k2'
  have K2 := k2'.heap K0 (by simp)
  have hP2 := k2.heap HP.out (by simp)
  have p8 : w2.cell? ⟨P, 8, none⟩ = some (.int .i64 num) := cell_is hP2 8 rfl
  have q0 : w2.cell? ⟨K, 0, none⟩ = some (.int .i64 num0) := cell_is K2 0 rfl
  have z0 : w2.frozen? ⟨K, 0, none⟩ = false := unfrozen K2 0
  have kS : Chg [] w (w2.setCell ⟨K, 0, none⟩ (.int .i64 ((num : Int) + 1))) := k2.new_set (by omega) 0 _
  have K3 : (w2.setCell ⟨K, 0, none⟩ (.int .i64 ((num : Int) + 1))).heap[K]? = some (.cells #[.int .i64 ((num : Int) + 1), .slice (some ⟨gt, 0, none⟩) 1 ct] 102 (0, 0)) := heap_set K2 0 _ rfl
  have a0 : (w2.setCell ⟨K, 0, none⟩ (.int .i64 ((num : Int) + 1))).cell? ⟨K, 0, none⟩ = some (.int .i64 ((num : Int) + 1)) := cell_is K3 0 rfl
  have a1 : (w2.setCell ⟨K, 0, none⟩ (.int .i64 ((num : Int) + 1))).cell? ⟨K, 1, none⟩ = some (.slice (some ⟨gt, 0, none⟩) 1 ct) := cell_is K3 1 rfl
  have hE := bencode_one _ (e := cnt) (num := num + 1) (HT.out.keep kS) (by omega) (by omega) hk0 hk1 hcnt hl0 hl hr hk
  rw [show ((num + 1 : Nat) : Int) = (num : Int) + 1 by omega] at hE
  have HE := Lib.hid hE
  clear hE
  clear p6 HL0 K0 k2' K2 hP2 K3 hk
  go_wp2_with fail
  obtain ⟨lo3, hlo3⟩ : ∃ lo3, lo3 = (w2.setCell ⟨K, 0, none⟩ (.int .i64 ((num : Int) + 1))).heap.size := ⟨_, rfl⟩
  have HLo := Lib.hid (show w.heap.size ≤ lo3 from by rw [hlo3]; exact kS.size)
  rw [← hlo3] at HE
  clear hlo3
  refine HE.out.mono ?_
  rintro e w3 ⟨v', rfl, k3', hrows⟩
  have k3 := kS.then k3'
  have hP3 := k3.heap HP.out (by simp)
  have hD3 := HD.out.keep k3 (Av.nil _ _)
  have hbl : (batL cnt (num + 1) k l).length = l.length + 1 := batL_length _ _ _ _
  have h64 : ∀ x ∈ batL cnt (num + 1) k l, x.length = 64 := fun x hx => by
    obtain ⟨i, hi, rfl⟩ := List.getElem_of_mem hx
    obtain ⟨-, -, -, -, -, -, -, -, h, -⟩ := hrows.get i hi
    exact h
  obtain ⟨gr, cr, gd', cd', hv', hcr, -, -, -, -⟩ := hrows.get 0 (by omega)
  subst hv'
  have HR := Lib.hid hrows
  have HD3 := Lib.hid hD3
  have HP3 := Lib.hid hP3
  have HGm := Lib.hid (geom_hdr w3 (N := N) (A := A) (c := c) ⟨_, hD3.hdr⟩)
  have p0 : w3.cell? ⟨P, 0, none⟩ = some (.pointer (some ⟨N, 0, none⟩)) := cell_is hP3 0 rfl
  have HBL := Lib.hid hbl
  have hsz3 := k3.size
  have hlr : lo3 ≤ gr := by
    obtain ⟨xs, ho, -⟩ := hrows
    exact (own_elem ho rfl).1
  have HV6 := Lib.hid (show ∀ g, (vs 6).ownBlock = some g → g < w.heap.size from fun g hg => by
    obtain ⟨cs, h5⟩ := (HD.out.rows 6 (by omega)).block g hg
    exact heap_lt h5)
  clear HE kS a0 a1 q0 z0 p8 HD HT k2 k3' hD3 hrows hbl hP3
  obtain ⟨bl, hbl'⟩ : ∃ bl, batL cnt (num + 1) k l = bl := ⟨_, rfl⟩
  rw [hbl'] at HR HBL h64
  rw [hbl']
  have HBb := Lib.hid hbl'
  clear hbl'
  go_wp2_with fail
  refine HGm.out.mono ?_
  rintro e w4 ⟨rfl, k4⟩
  have hP4 := k4.heap HP3.out (by simp)
  have HD4 := Lib.hid (HD3.out.keep k4 (Av.nil _ _))
  have HR4 := Lib.hid (HR.out.keep0 k4)
  have hfs := field_size
  have p7 : w4.cell? ⟨P, 7, none⟩ = some (.int .i64 pos) := cell_is hP4 7 rfl
  have p4 : w4.cell? ⟨P, 4, none⟩ = some (.int .i64 7) := cell_is hP4 4 rfl
  have p3 : w4.cell? ⟨P, 3, none⟩ = some (.int .i64 6) := cell_is hP4 3 rfl
  have hpn : IntKind.i64.wrap ((pos : Int) + (bl.length : Nat)) = (pos : Int) + (bl.length : Nat) := by rw [IntKind.wrap_i64]; have := HBL.out; omega
  have hgt : decide (192 < (pos : Int) + (bl.length : Nat)) = false := decide_eq_false (by have := HBL.out; omega)
  have HP4 := Lib.hid hP4
  have kk4 := k3.then k4
  clear hP4 HGm p0 HP3 HD3 HR k4 k3
  go_wp2_with fail
  go_quiet (fail)
  have kd : Chg [] w4 (w4.drewN nq) := (Chg.refl [] w4).drewN nq
  have k5 := kk4.then kd
  have hD5 := HD4.out.keep kd (Av.nil _ _)
  have hR5 := HR4.out.keep0 kd
  have hP5 : StoreG (w4.drewN nq) P N S M pos num := HP4.out
  have hW5 : Wl w (w4.drewN nq) base N A c ops Z vs gs zs Z[6] P S M pos num lo3 (.slice (some ⟨gr, 0, none⟩) bl.length cr) bl 0 := by
    refine ⟨⟨vs 6, ?_, fun g hg => Or.inl hg, fun g hg e => ?_⟩, hR5, hP5, k5.mono (fun x hx _ => by cases hx)⟩
    · rw [upF_self, List.take_zero, List.append_nil, upF_self]
      simpa using hD5
    · have h5 := HV6.out g hg
      have h6 := hlr
      have e' : gr = g := Option.some.inj e
      subst e'
      have := HLo.out
      omega
  have HW5 := Lib.hid hW5
  clear hW5 hR5 hP5 hD5 HD4 HR4 HP4 p7 p4 p3 hpn hgt hfs
  generalize w4.drewN nq = w5 at *
  go_wp2_with fail
  go_loopw [10, 11, 12, 13, 68] (fun _ _ _ _ i wr => ∃ j : Nat, j ≤ bl.length ∧ i = .int .i64 j ∧ Wl w wr base N A c ops Z vs gs zs Z[6] P S M pos num lo3 (.slice (some ⟨gr, 0, none⟩) bl.length cr) bl j) (fun _ _ _ _ i _ => bl.length - (intOf i).toNat)
  case atStart => exact ⟨0, by omega, rfl, HW5.out⟩
  case round =>
    obtain ⟨j, hj, rfl, hWr⟩ := hrel
    rename World => wr
    clear HW5
    by_cases hlt : j < bl.length
    · obtain ⟨⟨v6, hd, hn1, hn2⟩, hrows, hstore, hchg⟩ := hWr
      obtain ⟨gr1, cap1, gd, cd, hv1, -, r0, hbs, h64j, hbt⟩ := hrows.get j hlt
      cases hv1
      have hlti : (j : Int) < bl.length := by omega
      have HBL1 := HBL.out
      have nN : gd ≠ N := by
        obtain ⟨cs, hh⟩ := hbt
        exact heap_ne hh hd.hdr (by simp)
      have kdr : Chg [] wr wr.drew := (Chg.refl [] wr).drew
      have hdd := hd.keep kdr (Av.nil _ _)
      have hA := dappend_any wr.drew (cd := cd) hdd (by omega) (by omega) 6 h6 (by rw [upF_same, List.length_append, List.length_take]; omega) (hbs.chg kdr) h64j (fun g hg => by subst hg; exact nN) hlow
      rw [show ((6 : Nat) : Int) = 6 from rfl] at hA
      have HA := Lib.hid hA
      have kdr' := kdr.mono (T := N :: Z[6] :: (upF vs 6 v6 6).ownBlock.toList) (fun x hx _ => by cases hx)
      have hz6 := hd.zone 6 h6
      have hr6 := hd.rows 6 (by omega)
      have nP : P ∉ N :: Z[6] :: (upF vs 6 v6 6).ownBlock.toList := fun hm => by
        rcases List.mem_cons.1 hm with e | hm
        · exact heap_ne hstore hd.hdr (by simp) e
        · rcases List.mem_cons.1 hm with e | hm
          · exact heap_ne hstore hz6 (by simp) e
          · obtain ⟨cs, hh⟩ := hr6.block P (by simpa using hm)
            rw [hstore] at hh
            cases hh
      have p0 : wr.cell? ⟨P, 0, none⟩ = some (.pointer (some ⟨N, 0, none⟩)) := cell_is hstore 0 rfl
      have p3 : wr.cell? ⟨P, 3, none⟩ = some (.int .i64 6) := cell_is hstore 3 rfl
      have p7 : wr.cell? ⟨P, 7, none⟩ = some (.int .i64 pos) := cell_is hstore 7 rfl
      have hq1 : IntKind.i64.wrap ((pos : Int) + (j : Nat)) = (pos : Int) + (j : Nat) := by rw [IntKind.wrap_i64]; omega
      have hq2 : ((pos : Int) + (j : Nat)).tdiv 96 = 0 := by
        rw [Int.tdiv_eq_ediv_of_nonneg (by omega)]
        omega
      have HW := Lib.hid (fun wy v' kc hd' hv' => Wl.step (wy := wy) (v' := v') h6 hlt hrows hstore hchg hd hn1 hn2 kc hd' hv')
      have HnP := Lib.hid nP
      clear hd hn1 hn2 hrows hstore hchg hbs h64j hbt nN hdd hA hz6 hr6 nP HBL1
      go_wp2_with fail
      go_region_held3 (fun wx => wx.cell? ⟨P, 0, none⟩ = some (.pointer (some ⟨N, 0, none⟩)) ∧ wx.cell? ⟨P, 3, none⟩ = some (.int .i64 6) ∧ wx.cell? ⟨P, 7, none⟩ = some (.int .i64 pos))
        (first
          | (exact ⟨p0, p3, p7⟩)
          | (exact ⟨kc.cell p0 HnP.out, kc.cell p3 HnP.out, kc.cell p7 HnP.out⟩))
        (first
          | (go_at_call 102; refine HA.out.mono ?_; rintro e w6 ⟨v', rfl, kc', dc, hvc⟩; have kc := kdr'.then kc'))
      have hWn := Lib.hid (HW.out _ _ kc dc hvc)
      have hb16 : bl.length ≤ 17 := by have := HBL.out; omega
      clear HW HA HnP kc dc hvc kc' p0 p3 p7
      go_wp2_with fail
      exact ⟨⟨j + 1, by omega, by go_num, hWn.out⟩, by simp [intOf]; omega⟩
    · obtain rfl : j = bl.length := by omega
      obtain ⟨⟨v6, hd, -, -⟩, -, hstore, hchg⟩ := hWr
      rw [List.take_length] at hd
      have HF := Lib.hid (dflush_any wr hd (by omega) (by have := HBL.out; omega))
      have p0 : wr.cell? ⟨P, 0, none⟩ = some (.pointer (some ⟨N, 0, none⟩)) := cell_is hstore 0 rfl
      have nP : P ∉ N :: Z := fun hm => by
        rcases List.mem_cons.1 hm with e | hm
        · exact heap_ne hstore hd.hdr (by simp) e
        · obtain ⟨i, hi, e⟩ := List.getElem_of_mem hm
          exact heap_ne hstore (hd.zone i hi) (by simp) e.symm
      have HS := Lib.hid hstore
      have HnP := Lib.hid nP
      have HCg := Lib.hid hchg
      have Hpb := Lib.hid (show pos + bl.length < 1000 by have := HBL.out; omega)
      have Hop := Lib.hid (show ops + (bl.length : Nat) + 1 = ops + (l.length : Nat) + 2 by have := HBL.out; omega)
      clear hd hstore hchg nP
      go_wp2_with fail
      refine HF.out.mono ?_
      rintro e w6 ⟨rfl, k6, hd6⟩
      have hP6 := k6.heap HS.out HnP.out
      have p7 : w6.cell? ⟨P, 7, none⟩ = some (.int .i64 pos) := cell_is hP6 7 rfl
      have p8 : w6.cell? ⟨P, 8, none⟩ = some (.int .i64 num) := cell_is hP6 8 rfl
      have f7 := unfrozen hP6 7
      have f8 := unfrozen hP6 8
      have HD6 := Lib.hid hd6
      have HP6 := Lib.hid hP6
      clear hd6 hP6 HF HS p0
      go_wp2_with fail
      go_ret
      have hps := pos_wrap pos bl.length l.length HBL.out Hpb.out
      have hop := Hop.out
      rw [hps]
      have hdF := HD6.out
      rw [hop] at hdF
      have kS1 := Chg.set w6 P 7 (.int .i64 ((pos + l.length + 1 : Nat) : Int))
      have hP7 : StoreG (w6.setCell ⟨P, 7, none⟩ (.int .i64 ((pos + l.length + 1 : Nat) : Int))) P N S M (pos + l.length + 1) num := heap_set HP6.out 7 _ rfl
      have kS2 := Chg.set (w6.setCell ⟨P, 7, none⟩ (.int .i64 ((pos + l.length + 1 : Nat) : Int))) P 8 (.int .i64 ((num : Int) + 1))
      rw [HBb.out]
      refine ⟨rfl, ?_, heap_set hP7 8 _ rfl, v6, (hdF.keep kS1 (Av.row HP6.out (by decide))).keep kS2 (Av.row hP7 (by decide))⟩
      have hZ6 : Z[6] ∈ Z := List.getElem_mem h6
      refine (((HCg.out.mono ?_).then (k6.mono ?_)).then_set (fun _ => List.mem_cons_self) 7 _).then_set (fun _ => List.mem_cons_self) 8 _
      · intro x hx _
        simp only [List.mem_cons] at hx
        rcases hx with rfl | rfl | hx
        · simp
        · simp [hZ6]
        · simp [show x ∈ (vs 6).ownBlock.toList from hx]
      · intro x hx _
        simp only [List.mem_cons] at hx
        rcases hx with rfl | hx
        · simp
        · simp [hx]
end Go.Proofs.YtfodeeejolkkfaaGreat
namespace Go.Proofs.YtfodeeejolkkfaaGreat
open Go.RowKit Go.Lib

theorem BookAt.keepT {w w' : World} {T : List Nat} {B rb : Nat} {last : Int} {L : List (Int × Value)} (h : BookAt w B rb last L) (hc : Chg T w w') (h1 : B ∉ T) (h2 : rb ∉ T) : BookAt w' B rb last L := ⟨hc.heap h.1 h1, h.2.keep hc h2⟩
set_option maxRecDepth 100000 in
theorem bat_ok (w : World) {B rb : Nat} {last k t : Int} {L : List (Int × Value)} (h : BookAt w B rb last L) (hg : getL L k = some (.int .i64 t)) : Calls Tryz.prog 192 #[.pointer (some ⟨B, 0, none⟩), .int .i64 k] w fun e w' => e = .returned (.tuple #[.int .i64 t, .int .i64 0]) ∧ w = w' := by
  have c2 : w.cell? ⟨B, 2, none⟩ = some (.map (some rb)) := cell_is h.1 2 rfl
  have hl : (Instr.lookup 268 (.map (some rb)) (.int .i64 k) true).run Tryz.prog w = .ok (.tuple #[.int .i64 t, .bool true]) w := by
    have := lookup268 h.2 k true
    rw [hg] at this
    exact this
  clear h hg
  go_enter Tryz.func192, Tryz.ntmps192
  go_wp2_with fail
  go_ret2
  exact ⟨rfl, rfl⟩
set_option maxRecDepth 100000 in
theorem bclose_ok (w : World) {B rb : Nat} {last k t : Int} {L : List (Int × Value)} (h : BookAt w B rb last L) (hg : getL L k = some (.int .i64 t)) : Calls Tryz.prog 154 #[.pointer (some ⟨B, 0, none⟩), .int .i64 k] w fun e w' =>
    e = .returned (.int .i64 0) ∧ BookAt w' B rb last (delL L k) ∧ Chg [rb] w w' := by
  have HA := Lib.hid (bat_ok w h hg)
  have c2 : w.cell? ⟨B, 2, none⟩ = some (.map (some rb)) := cell_is h.1 2 rfl
  obtain ⟨w1, hd0, h1, h2, -⟩ := run_delete_im (P := Tryz.prog) (mty := 268) (kt := 3) (et := 3) (by kernel_rfl) (by kernel_rfl) h.2 k 0
  have hd : ∀ ty, (Builtin.delete_ #[268, 3] ty #[.map (some rb), .int .i64 k]).run Tryz.prog w = .ok (.tuple #[]) w1 := fun ty => hd0
  have hB1 : BookAt w1 B rb last (delL L k) := ⟨h2.heap h.1 (by simpa using (map_cells h.2 h.1).symm), h1⟩
  have HB := Lib.hid hB1
  clear h hg h1 hB1
  go_enter Tryz.func154, Tryz.ntmps154
  go_wp2_with fail
  refine HA.out.mono ?_
  rintro e w2 ⟨rfl, rfl⟩
  go_wp2_with fail
  go_ret
  exact ⟨rfl, HB.out, h2⟩
set_option maxRecDepth 100000 in
theorem tend_ok (w : World) {M X B r T W Q rb : Nat} {qv : Value} {out num bas last given bl h t0 : Int} {rd : Bool} {Lr Lb : List (Int × Value)} {s0 c0 k t : Int} (hM : MgrG w M X B r qv out num bas last given rd) (hr : MapAt w r Lr) (hg : getL Lr h = some (.pointer (some ⟨T, 0, none⟩)))
    (hT : w.heap[T]? = some (.cells #[.int .i64 s0, .int .i64 k, .int .i64 c0, .int .i64 t, .pointer (some ⟨W, 0, none⟩), .pointer (some ⟨Q, 0, none⟩)] 173 (0, 0))) (hB : BookAt w B rb bl Lb) (hb : getL Lb h = some (.int .i64 t0)) :
    Calls Tryz.prog 96 #[.pointer (some ⟨M, 0, none⟩), .int .i64 h, .int .i64 3, .int .i64 0] w fun e w' => e = .returned (.tuple #[]) ∧ Chg [T, rb] w w' ∧ BookAt w' B rb bl (delL Lb h) ∧
      w'.heap[T]? = some (.cells #[.int .i64 3, .int .i64 k, .int .i64 0, .int .i64 t, .pointer (some ⟨W, 0, none⟩), .pointer (some ⟨Q, 0, none⟩)] 173 (0, 0)) := by
  have m2 : w.cell? ⟨M, 2, none⟩ = some (.map (some r)) := cell_is hM 2 rfl
  have m1 : w.cell? ⟨M, 1, none⟩ = some (.pointer (some ⟨B, 0, none⟩)) := cell_is hM 1 rfl
  have hl : (Instr.lookup 178 (.map (some r)) (.int .i64 h) false).run Tryz.prog w = .ok (.pointer (some ⟨T, 0, none⟩)) w := by
    have := lookup178 hr h false
    rw [hg] at this
    exact this
  have t0' : w.cell? ⟨T, 0, none⟩ = some (.int .i64 s0) := cell_is hT 0 rfl
  have t2' : w.cell? ⟨T, 2, none⟩ = some (.int .i64 c0) := cell_is hT 2 rfl
  have f0 := unfrozen hT 0
  have f2 := unfrozen hT 2
  have hBT : B ≠ T := heap_ne hB.1 hT (by simp)
  have hrT : rb ≠ T := map_cells hB.2 hT
  have hMT : M ≠ T := heap_ne hM hT (by simp)
  have hTS := heap_set (heap_set hT 0 (.int .i64 3) rfl) 2 (.int .i64 0) rfl
  have kS : Chg [T] w ((w.setCell ⟨T, 0, none⟩ (.int .i64 3)).setCell ⟨T, 2, none⟩ (.int .i64 0)) := ((Chg.refl [T] w).then_set (fun _ => by simp) 0 _).then_set (fun _ => by simp) 2 _
  have hBS := hB.keepT kS (by simpa using hBT) (by simpa using hrT)
  have HC := Lib.hid (bclose_ok _ hBS hb)
  have m1S := kS.cell m1 (by simpa using hMT)
  have HTS := Lib.hid hTS
  clear hM hr hg hT hB hb hBS hTS
  go_enter Tryz.func96, Tryz.ntmps96
  go_wp2_with fail
  refine HC.out.mono ?_
  rintro e w2 ⟨rfl, h1, h2⟩
  go_wp2_with fail
  refine bodyPost_end (v := .tuple #[]) (by simp [results, Tryz.results96, go_sem]) rfl ?_
  exact ⟨rfl, (kS.mono (fun x hx _ => by simp at hx; simp [hx])).then (h2.mono (fun x hx _ => by simp at hx; simp [hx])), h1, h2.heap HTS.out (by simpa using hrT.symm)⟩
end Go.Proofs.YtfodeeejolkkfaaGreat
namespace Go.Proofs.YtfodeeejolkkfaaGreat
open Go.RowKit Go.Lib

/-- nothing is put behind an empty row of ints. -/
theorem append_zero (w : World) (z g o c : Nat) (ty : TypeId) : (Builtin.append_ #[62, 62] ty #[.slice (some ⟨z, 0, none⟩) 0 0, .slice (some ⟨g, o, none⟩) 0 c]).run Tryz.prog w = .ok (.slice (some ⟨z, 0, none⟩) 0 0) w := by
  obtain ⟨i, hi0, hz, hz1, hz2⟩ := info_parts inf3
  simp [Builtin.append_, run_underlying ty62, sizeOf, typeInfo, hi0, Builtin.lenOf, Builtin.firstCells, storeCells, loadCells, loadCellsFrom, Result.andThen]
set_option maxRecDepth 100000 in
theorem iclone_zero (w : World) (g o c : Nat) : Calls Tryz.prog 104 #[.slice (some ⟨g, o, none⟩) 0 c] w fun e w' => ∃ z, e = .returned (.slice (some ⟨z, 0, none⟩) 0 0) ∧ Chg [] w w' ∧ w'.ownsRow w.heap.size 3 1 (.slice (some ⟨z, 0, none⟩) 0 0) 0 [] := by
  have hn : ∀ w, (binOp .eql 62 (.slice (some ⟨g, o, none⟩) 0 c) (.slice none 0 0)).run Tryz.prog w = .ok (.bool false) w := fun w => Lib.run_eql_slice_nil w 62 3 _ _ _ 0 0 ty62
  have ha := fun z w ty => append_zero w z g o c ty
  go_enter Tryz.func104, Tryz.ntmps104
  go_wp2_with fail
  go_ret
  exact ⟨w.heap.size, rfl, Chg.alloc w _, rfl, Or.inr ⟨w.heap.size, 0, #[], rfl, Nat.le_refl _, heap_new _ _, Nat.le_refl _, by unfold maxLen; omega, rfl, rfl⟩⟩
theorem wpList_append_int2 {ops : Array Oper} {rest : List Oper} {o : Oper} {a : Act} {w : World} {Q : Exit → Act → World → Prop} (hgd : o.guard = none) (s x : Operand)
    (ho : o.op = .call { callee := .builtin .append, args := #[s, x], argTypes := #[62, 62] }) (z b c : Nat) (k : Int) (hs : a.eval s = .slice (some ⟨z, 0, none⟩) 0 0) (hz : w.heap[z]? = some (.cells #[] 3 (0, 0)))
    (hx : a.eval x = .slice (some ⟨b, 0, none⟩) 1 c) (hb : w.cell? ⟨b, 0, none⟩ = some (.int .i64 k))
    (h : ∀ g cap w', Chg [z] w w' → w'.ownsRow z 3 1 (.slice (some ⟨g, 0, none⟩) 1 cap) 1 [.int .i64 k] → wpList Tryz.prog ops Q rest (a.put o.dst (.slice (some ⟨g, 0, none⟩) 1 cap)) w') : wpList Tryz.prog ops Q (o :: rest) a w := by
  obtain ⟨i, hi0, hz0, hz1, hz2⟩ := info_parts inf3
  have hown : w.ownsRow z 3 1 (.slice (some ⟨z, 0, none⟩) 0 0) 0 [] := ⟨rfl, Or.inr ⟨z, 0, #[], rfl, Nat.le_refl _, hz, Nat.le_refl _, by unfold maxLen; omega, rfl, rfl⟩⟩
  refine wpList_append_lies w hgd s x 62 ho z 3 i _ 1 8 ty62 hi0 hz0 hz1 hz2 rfl (by decide) _ 0 [] hs hown ⟨b, 0, none⟩ 1 c [.int .i64 k] hx rfl ?_ ?_ (by decide) (by unfold maxLen; omega) (by omega) (Nat.le_of_lt (heap_lt hz)) _ rfl ?_
  · intro j u hu
    rw [add_lit, Nat.zero_add]
    match j with
    | 0 => cases hu; exact hb
    | j + 1 => simp at hu
  · intro u hu
    simp at hu
    subst hu
    rfl
  · intro g cap w' h1 h3 _ _
    exact h g cap w' (Chg.of_grown h3) h1
set_option maxRecDepth 100000 in
theorem iclone_one (w : World) {g c : Nat} {k : Int} (h0 : w.cell? ⟨g, 0, none⟩ = some (.int .i64 k)) : Calls Tryz.prog 104 #[.slice (some ⟨g, 0, none⟩) 1 c] w fun e w' =>
    ∃ g' c', e = .returned (.slice (some ⟨g', 0, none⟩) 1 c') ∧ Chg [] w w' ∧ w'.ownsRow w.heap.size 3 1 (.slice (some ⟨g', 0, none⟩) 1 c') 1 [.int .i64 k] := by
  have hn : ∀ w, (binOp .eql 62 (.slice (some ⟨g, 0, none⟩) 1 c) (.slice none 0 0)).run Tryz.prog w = .ok (.bool false) w := fun w => Lib.run_eql_slice_nil w 62 3 _ _ _ 0 0 ty62
  have k0 : Chg [] w (w.alloc (.cells #[] 3)) := Chg.alloc w _
  have hb := k0.cell h0 (by simp)
  have hz := heap_new w (.cells #[] 3)
  clear h0
  go_enter Tryz.func104, Tryz.ntmps104
  go_wp2_with (first | (at_builtin; refine wpList_append_int2 rfl (.tmp 5) (.tmp 6) rfl w.heap.size g c k rfl hz rfl hb ?_; intro g2 c2 w2 k2 o2))
  go_ret
  exact ⟨g2, c2, rfl, k0.trans k2 (fun x hx hlt => by simp at hx; omega), o2⟩
end Go.Proofs.YtfodeeejolkkfaaGreat
namespace Go.Proofs.YtfodeeejolkkfaaGreat
open Go.RowKit Go.Lib

set_option maxRecDepth 100000 in
set_option maxHeartbeats 1000000 in
theorem rise_ok (w : World) {lo cb : Nat} {pb : Option Addr} {l : List (Int × List UInt8)} (hp : PutsAt w lo (.slice pb l.length cb) l) (hr : Rise l) (hl0 : 0 < l.length) (hl : l.length ≤ 1000) : Calls Tryz.prog 161 #[.slice pb l.length cb] w fun e w' => e = .returned (.bool true) ∧ Chg [] w w' := by
  have HP := Lib.hid hp
  have HR := Lib.hid hr
  have n2 : decide (0 < (l.length : Int)) = true := decide_eq_true (by omega)
  clear hp hr
  go_enter Tryz.func161, Tryz.ntmps161
  go_wp2_with fail
  go_loopw [3] (fun i wz => ∃ j : Nat, 1 ≤ j ∧ j ≤ l.length ∧ i = .int .i64 j ∧ Chg [] w wz) (fun i _ => l.length - (intOf i).toNat)
  case atStart => exact ⟨1, by omega, by omega, rfl, Chg.refl _ _⟩
  case round =>
    obtain ⟨j, hj1, hj, rfl, kz⟩ := hrel
    rename World => wz
    by_cases hlt : j < l.length
    · obtain ⟨q, rfl⟩ : ∃ q, j = q + 1 := ⟨j - 1, by omega⟩
      have hP2 := HP.out.keep0 kz
      obtain ⟨gp, cap, gd, cd, hv, hcap, d1, -, -, -, -⟩ := hP2.get (q + 1) hlt
      obtain ⟨gp', cap', gd', cd', hv', -, d0, -, -, -, -⟩ := hP2.get q (by omega)
      cases hv
      cases hv'
      have hlt2 := HR.out q hlt
      have hnle : decide ((l[q + 1]).1 ≤ (l[q]'(by omega)).1) = false := decide_eq_false (by omega)
      have hwq : IntKind.i64.wrap (((q + 1 : Nat) : Int) - 1) = q := by rw [IntKind.wrap_i64]; omega
      have hqi : (q : Int) < l.length := by omega
      have hqi2 : ((q + 1 : Nat) : Int) < l.length := by omega
      clear hP2 HP HR hlt2
      generalize (l[q + 1]).1 = x at *
      generalize (l[q]'(by omega)).1 = y at *
      go_wp2_with fail
      go_quiet (fail)
      go_wp2_with fail
      exact ⟨⟨q + 2, by omega, by omega, by go_num, kz.drewN nq⟩, by simp [intOf]; omega⟩
    · obtain rfl : j = l.length := by omega
      go_wp2_with fail
      go_ret
      exact ⟨rfl, kz⟩
theorem ty265 : Tryz.prog.underlying 265 = some (.slice 267) := by kernel_rfl
theorem inf267 : (Tryz.prog.info? 267).map (fun i => (i.zero, i.size, i.bytes)) = some (some (.agg #[.int .i64 0, .slice none 0 0]), 2, 32) := by kernel_rfl
/-- a version is put behind others, as a step of a region that draws. -/
theorem step_append_ver {ops : Array Oper} {o : Oper} {a : Act} {w : World} {K : Act → World → Prop} {Q : Exit → Act → World → Prop} {E : Prop} (hgd : o.guard = none) (s x : Operand)
    (ho : o.op = .call { callee := .builtin .append, args := #[s, x], argTypes := #[265, 265] }) (base : Nat) (v : Value) (n : Nat) (xs : List Value) (hs : a.eval s = v) (hown : w.ownsRow base 267 2 v n xs) (b c : Nat) (u0 u1 : Value)
    (hx : a.eval x = .slice (some ⟨b, 0, none⟩) 1 c) (c0 : w.cell? ⟨b, 0, none⟩ = some u0) (c1 : w.cell? ⟨b, 1, none⟩ = some u1) (h1 : u0.oneCell' = true ∧ u1.oneCell' = true) (hn : n ≤ 1000000) (hbase : base ≤ w.heap.size)
    (h : ∀ g cap w', w'.ownsRow base 267 2 (.slice (some ⟨g, 0, none⟩) (n + 1) cap) (n + 1) (xs ++ [u0, u1]) → Chg v.ownBlock.toList w w' → (v.ownBlock = some g ∨ g = w.heap.size) → K (a.put o.dst (.slice (some ⟨g, 0, none⟩) (n + 1) cap)) w') :
    if Region.wanted o (yielded ops a.tmps) = true then Oper.wp Tryz.prog o a w K Q else E := by
  obtain ⟨i, hi0, hz, hz1, hz2⟩ := info_parts inf267
  refine step_append_lies w hgd s x 265 ho base 267 i _ 2 32 ty265 hi0 hz hz1 hz2 rfl (by decide) v n xs hs hown ⟨b, 0, none⟩ 1 c [u0, u1] hx rfl ?_ ?_ (by decide) (by unfold maxLen; omega) (by omega) hbase _ rfl ?_
  · intro j u hu
    rw [add_lit, Nat.zero_add]
    match j with
    | 0 => cases hu; exact c0
    | 1 => cases hu; exact c1
    | j + 2 => simp at hu
  · intro u hu
    simp at hu
    rcases hu with rfl | rfl
    · exact h1.1
    · exact h1.2
  · intro g cap w' h2 h3 h4 _
    refine h g cap w' h2 ?_ h4
    cases hv : v.ownBlock with
    | none => rw [hv] at h3; exact Chg.of_grown0 h3
    | some k => rw [hv] at h3; exact Chg.of_grown h3
/-- .. in a list. -/
theorem wpList_append_ver {ops : Array Oper} {rest : List Oper} {o : Oper} {a : Act} {w : World} {Q : Exit → Act → World → Prop} (hgd : o.guard = none) (s x : Operand)
    (ho : o.op = .call { callee := .builtin .append, args := #[s, x], argTypes := #[265, 265] }) (base : Nat) (v : Value) (n : Nat) (xs : List Value) (hs : a.eval s = v) (hown : w.ownsRow base 267 2 v n xs) (b c : Nat) (u0 u1 : Value)
    (hx : a.eval x = .slice (some ⟨b, 0, none⟩) 1 c) (c0 : w.cell? ⟨b, 0, none⟩ = some u0) (c1 : w.cell? ⟨b, 1, none⟩ = some u1) (h1 : u0.oneCell' = true ∧ u1.oneCell' = true) (hn : n ≤ 1000000) (hbase : base ≤ w.heap.size)
    (h : ∀ g cap w', w'.ownsRow base 267 2 (.slice (some ⟨g, 0, none⟩) (n + 1) cap) (n + 1) (xs ++ [u0, u1]) → Chg v.ownBlock.toList w w' → (v.ownBlock = some g ∨ g = w.heap.size) → wpList Tryz.prog ops Q rest (a.put o.dst (.slice (some ⟨g, 0, none⟩) (n + 1) cap)) w') : wpList Tryz.prog ops Q (o :: rest) a w := by
  obtain ⟨i, hi0, hz, hz1, hz2⟩ := info_parts inf267
  refine wpList_append_lies w hgd s x 265 ho base 267 i _ 2 32 ty265 hi0 hz hz1 hz2 rfl (by decide) v n xs hs hown ⟨b, 0, none⟩ 1 c [u0, u1] hx rfl ?_ ?_ (by decide) (by unfold maxLen; omega) (by omega) hbase _ rfl ?_
  · intro j u hu
    rw [add_lit, Nat.zero_add]
    match j with
    | 0 => cases hu; exact c0
    | 1 => cases hu; exact c1
    | j + 2 => simp at hu
  · intro u hu
    simp at hu
    rcases hu with rfl | rfl
    · exact h1.1
    · exact h1.2
  · intro g cap w' h2 h3 h4 _
    refine h g cap w' h2 ?_ h4
    cases hv : v.ownBlock with
    | none => rw [hv] at h3; exact Chg.of_grown0 h3
    | some k => rw [hv] at h3; exact Chg.of_grown h3
theorem VRow.nil (w : World) (lo : Nat) : VRow w lo (.slice none 0 0) [] := ⟨[], World.ownsRow_nil _ _ _ _, fun i h => by simp at h⟩
/-- .. when a version is put behind them. -/
theorem VRow.push {w w' : World} {lo gb cb n : Nat} {v v' : Value} {l : List (Int × List UInt8)} {k : Int} {b : List UInt8} {xs : List Value} (hx : ∀ i (h : i < l.length), xs[i * 2]? = some (.int .i64 l[i].1) ∧ ∃ g c, xs[i * 2 + 1]? = some (.slice (some ⟨g, 0, none⟩) 40 c) ∧ Bs w (some ⟨g, 0, none⟩) l[i].2 ∧ l[i].2.length = 40 ∧ Bt w g)
    (hl : xs.length = l.length * 2) (hn : n = l.length) (hv : ∀ g, v.ownBlock = some g → ∃ cs, w.heap[g]? = some (.cells cs 267 (0, 0))) (ho : w'.ownsRow lo 267 2 v' (n + 1) (xs ++ [.int .i64 k, .slice (some ⟨gb, 0, none⟩) 40 cb])) (hc : Chg v.ownBlock.toList w w')
    (hb : Bs w (some ⟨gb, 0, none⟩) b) (hb4 : b.length = 40) (hbt : Bt w gb) : VRow w' lo v' (l ++ [(k, b)]) := by
  subst hn
  have hne : ∀ {g}, Bt w g → g ∉ v.ownBlock.toList := by
    rintro g ⟨cs2, h2⟩ hm
    obtain ⟨cs, h1⟩ := hv g (by simpa using hm)
    rw [h1] at h2
    cases h2
  have keepB : ∀ {g}, Bt w g → Bt w' g := fun {g} h => by
    obtain ⟨cs, h2⟩ := id h
    exact ⟨cs, hc.heap h2 (hne h)⟩
  refine ⟨_, by rw [List.length_append]; exact ho, fun i hi => ?_⟩
  by_cases h : i < l.length
  · obtain ⟨h0, g, c, h1, h2, h3, h4⟩ := hx i h
    rw [List.getElem_append_left h]
    exact ⟨by rw [List.getElem?_append_left (by omega)]; exact h0, g, c, by rw [List.getElem?_append_left (by omega)]; exact h1, h2.chgT hc (hne h4), h3, keepB h4⟩
  · have hi2 : i = l.length := by simp at hi; omega
    subst hi2
    have e : (l ++ [(k, b)])[l.length]'(by simp) = (k, b) := by simp
    rw [e]
    exact ⟨by rw [← hl]; simp, gb, cb, by rw [← hl, List.getElem?_append_right (by omega)]; simp, hb.chgT hc (hne hbt), hb4, keepB hbt⟩
theorem getL_memk {L : List (Int × Value)} {k : Int} {v : Value} (h : getL L k = some v) : (k, v) ∈ L := by
  induction L with
  | nil => cases h
  | cons p l ih =>
    simp only [getL] at h
    split at h
    · rename_i hk
      injection h with h
      subst hk h
      exact List.mem_cons_self
    · exact List.mem_cons_of_mem _ (ih h)
/-- the rows of unlike blocks lie apart. -/
def ApL (L : List (Int × Value)) : Prop := ∀ b c v u g, b ≠ c → getL L b = some v → getL L c = some u → v.ownBlock = some g → u.ownBlock ≠ some g
/-- versions with one more of one block. -/
def addV (vs : Int → List (Int × List UInt8)) (b : Int) (x : Int × List UInt8) : Int → List (Int × List UInt8) := fun k => if k = b then vs k ++ [x] else vs k
/-- .. with a transaction's puts at its time. -/
def applyV (vs : Int → List (Int × List UInt8)) (k : Int) (l : List (Int × List UInt8)) : Int → List (Int × List UInt8) := l.foldl (fun vs p => addV vs p.1 (k, p.2)) vs
theorem applyV_take (vs : Int → List (Int × List UInt8)) (k : Int) (l : List (Int × List UInt8)) (j : Nat) (h : j < l.length) : applyV vs k (l.take (j + 1)) = addV (applyV vs k (l.take j)) l[j].1 (k, l[j].2) := by
  unfold applyV
  rw [List.take_succ_eq_append_getElem h, List.foldl_append]
  rfl
theorem addV_len (vs : Int → List (Int × List UInt8)) (b : Int) (x : Int × List UInt8) (c : Int) : (addV vs b x c).length ≤ (vs c).length + 1 := by
  unfold addV
  split <;> simp
theorem applyV_len (vs : Int → List (Int × List UInt8)) (k : Int) (l : List (Int × List UInt8)) (c : Int) : (applyV vs k l c).length ≤ (vs c).length + l.length := by
  induction l generalizing vs with
  | nil => exact Nat.le_refl _
  | cons p l ih =>
    have h1 := ih (addV vs p.1 (k, p.2))
    have h2 := addV_len vs p.1 (k, p.2) c
    show (applyV (addV vs p.1 (k, p.2)) k l c).length ≤ _
    simp only [List.length_cons]
    omega
/-- what of memory may change where versions are added. -/
def Cv (lo X rx : Nat) (w w' : World) : Prop := ∃ T, Chg T w w' ∧ ∀ x ∈ T, x < w.heap.size → x = X ∨ x = rx ∨ (lo ≤ x ∧ ∃ cs, w.heap[x]? = some (.cells cs 267 (0, 0)))
theorem Cv.of_chg {lo X rx : Nat} {w w' : World} (h : Chg [] w w') : Cv lo X rx w w' := ⟨[], h, fun x hx => by cases hx⟩
theorem Cv.trans {lo X rx : Nat} {a b c : World} (h : Cv lo X rx a b) (k : Cv lo X rx b c) : Cv lo X rx a c := by
  obtain ⟨T, h1, h2⟩ := h
  obtain ⟨U, k1, k2⟩ := k
  refine ⟨T ++ U, (h1.mono (fun x hx _ => List.mem_append_left _ hx)).trans k1 (fun x hx _ => List.mem_append_right _ hx), fun x hx hlt => ?_⟩
  by_cases hT : x ∈ T
  · exact h2 x hT hlt
  · rcases List.mem_append.1 hx with h | h
    · exact absurd h hT
    · rcases k2 x h (Nat.lt_of_lt_of_le hlt h1.size) with e | e | ⟨e, cs, hh⟩
      · exact Or.inl e
      · exact Or.inr (Or.inl e)
      · exact Or.inr (Or.inr ⟨e, cs, by rw [← h1.block x hlt hT]; exact hh⟩)
theorem Cv.then {lo X rx : Nat} {a b c : World} (h : Cv lo X rx a b) (k : Chg [] b c) : Cv lo X rx a c := h.trans (Cv.of_chg k)
theorem Cv.size {lo X rx : Nat} {w w' : World} (h : Cv lo X rx w w') : w.heap.size ≤ w'.heap.size := by obtain ⟨T, h1, _⟩ := h; exact h1.size
/-- what holds of other blocks goes on to hold. -/
theorem Cv.av {lo X rx : Nat} {w : World} {T ts : List Nat} {csX : Array Value} {L : List (Int × Value)} (hT : ∀ x ∈ T, x < w.heap.size → x = X ∨ x = rx ∨ (lo ≤ x ∧ ∃ cs, w.heap[x]? = some (.cells cs 267 (0, 0)))) (hX : w.heap[X]? = some (.cells csX 260 (0, 0))) (hr : MapAt w rx L) (h1 : 260 ∉ ts) (h2 : 267 ∉ ts) : Av w T ts := by
  intro x hx cs t fr hh
  rcases hT x hx (heap_lt hh) with rfl | rfl | ⟨-, cs2, h3⟩
  · rw [hX] at hh; cases hh; exact h1
  · exact absurd rfl (map_cells hr hh)
  · rw [h3] at hh; cases hh; exact h2
theorem Cv.map {lo X rx r : Nat} {w : World} {T : List Nat} {csX : Array Value} {L : List (Int × Value)} (hT : ∀ x ∈ T, x < w.heap.size → x = X ∨ x = rx ∨ (lo ≤ x ∧ ∃ cs, w.heap[x]? = some (.cells cs 267 (0, 0)))) (hX : w.heap[X]? = some (.cells csX 260 (0, 0))) (hr : MapAt w r L) (h : r ≠ rx) : r ∉ T := by
  intro hm
  rcases hT r hm hr.lt with e | e | ⟨-, cs2, h3⟩
  · exact map_cells hr hX e
  · exact h e
  · exact map_cells hr h3 rfl
/-- a version is put behind those of one block. -/
theorem VerG.added {wx wA wB : World} {lo X rx g cap gb cb n : Nat} {last b k : Int} {L : List (Int × Value)} {vs : Int → List (Int × List UInt8)} {v : Value} {d : List UInt8} {xs : List Value} (h : VerG wx lo X rx last L vs) (hap : ApL L) (hkeys : ∀ p ∈ L, 0 ≤ p.1 ∧ p.1 < 258) (hgl : getL L b = some v ∨ getL L b = none ∧ v = .slice none 0 0)
    (hown : wx.ownsRow lo 267 2 v n xs) (hx : ∀ i (h : i < (vs b).length), xs[i * 2]? = some (.int .i64 (vs b)[i].1) ∧ ∃ g c, xs[i * 2 + 1]? = some (.slice (some ⟨g, 0, none⟩) 40 c) ∧ Bs wx (some ⟨g, 0, none⟩) (vs b)[i].2 ∧ (vs b)[i].2.length = 40 ∧ Bt wx g) (hn : n = (vs b).length)
    (hA : wA.ownsRow lo 267 2 (.slice (some ⟨g, 0, none⟩) (n + 1) cap) (n + 1) (xs ++ [.int .i64 k, .slice (some ⟨gb, 0, none⟩) 40 cb])) (kA : Chg v.ownBlock.toList wx wA) (hg : v.ownBlock = some g ∨ g = wx.heap.size)
    (hB : Bs wx (some ⟨gb, 0, none⟩) d) (hd : d.length = 40) (hBt : Bt wx gb) (mB : MapAt wB rx (putL L b (.slice (some ⟨g, 0, none⟩) (n + 1) cap))) (kB : Chg [rx] wA wB) (hs : ∀ c, (vs c).length < 1000000) :
    VerG wB lo X rx last (putL L b (.slice (some ⟨g, 0, none⟩) (n + 1) cap)) (addV vs b (k, d)) ∧ ApL (putL L b (.slice (some ⟨g, 0, none⟩) (n + 1) cap)) ∧ Cv lo X rx wx wB := by
  have hvb : ∀ g, v.ownBlock = some g → lo ≤ g ∧ ∃ cs, wx.heap[g]? = some (.cells cs 267 (0, 0)) := fun g hg => by
    obtain ⟨h1, cs, h2⟩ := own_elem hown hg
    exact ⟨h1, cs, h2⟩
  have mA : MapAt wA rx L := h.m.keep kA (fun hm => by
    obtain ⟨-, cs, h2⟩ := hvb rx (by simpa using hm)
    exact map_cells h.m h2 rfl)
  have hXv : X ∉ v.ownBlock.toList := own_block_ne hown h.x (by decide)
  have hXA := kA.heap h.x hXv
  have avA : Av wx v.ownBlock.toList [5] := fun x hx cs t fr hh => by
    obtain ⟨-, cs2, h2⟩ := hvb x (by simpa using hx)
    rw [h2] at hh; cases hh; simp
  have avB : Av wA [rx] [5] := av_map mA _
  refine ⟨⟨kB.heap hXA (by simpa using (map_cells mA hXA).symm), mB, fun c c0 c1 => ?_, fun c => ?_⟩, ?_, ?_⟩
  · rw [getL_put]
    by_cases hc : c = b
    · subst hc
      rw [if_pos rfl]
      refine Or.inr ⟨_, rfl, ?_, by simp [addV]⟩
      have hr : VRow wA lo (.slice (some ⟨g, 0, none⟩) (n + 1) cap) (vs c ++ [(k, d)]) := VRow.push hx (by have := hown.1; omega) hn (fun g hg => (hvb g hg).2) hA kA hB hd hBt
      have hr2 := hr.keep kB avB (fun g' hg' hm => by
        obtain ⟨cs, h2⟩ := hr.block g' hg'
        rw [List.mem_singleton] at hm
        subst hm
        exact map_cells mA h2 rfl)
      simpa [addV] using hr2
    · rw [if_neg hc]
      rcases h.row c c0 c1 with ⟨e1, e2⟩ | ⟨u, e1, e2, e3⟩
      · exact Or.inl ⟨e1, by simp [addV, hc, e2]⟩
      · refine Or.inr ⟨u, e1, ?_, by simp [addV, hc, e3]⟩
        have hr := e2.keep kA avA (fun g' hg' hm => by
          have hm' : v.ownBlock = some g' := by simpa using hm
          rcases hgl with e | ⟨-, rfl⟩
          · exact hap c b u v g' hc e1 e hg' hm'
          · cases hm')
        have hr2 := hr.keep kB avB (fun g' hg' hm => by
          obtain ⟨cs, h2⟩ := hr.block g' hg'
          rw [List.mem_singleton] at hm
          subst hm
          exact map_cells mA h2 rfl)
        simpa [addV, hc] using hr2
  · have := addV_len vs b (k, d) c
    have := hs c
    omega
  · intro c1 c2 v1 v2 gg hne h1 h2 e1 e2
    rw [getL_put] at h1 h2
    have key : ∀ c u gg, c ≠ b → getL L c = some u → u.ownBlock = some gg → g ≠ gg := by
      rintro c u gg hc hu hug rfl
      rcases hg with hg | hg
      · rcases hgl with e | ⟨-, rfl⟩
        · exact hap c b u v g hc hu e hug hg
        · cases hg
      · by_cases hr : 0 ≤ c ∧ c < 258
        · rcases h.row c hr.1 hr.2 with ⟨x1, -⟩ | ⟨u', x1, x2, -⟩
          · rw [x1] at hu; cases hu
          · rw [x1] at hu; cases hu
            obtain ⟨cs, h5⟩ := x2.block g hug
            have := heap_lt h5
            omega
        · exact absurd (hkeys _ (getL_memk hu)) hr
    by_cases hc1 : c1 = b
    · rw [if_pos hc1] at h1
      cases h1
      have hc2 : c2 ≠ b := fun e => hne (hc1.trans e.symm)
      rw [if_neg hc2] at h2
      have e1' : g = gg := Option.some.inj e1
      exact key c2 v2 gg hc2 h2 e2 e1'
    · rw [if_neg hc1] at h1
      by_cases hc2 : c2 = b
      · rw [if_pos hc2] at h2
        cases h2
        have e2' : g = gg := Option.some.inj e2
        exact key c1 v1 gg hc1 h1 e1 e2'
      · rw [if_neg hc2] at h2
        exact hap c1 c2 v1 v2 gg hne h1 h2 e1 e2
  · refine ⟨v.ownBlock.toList ++ [rx], (kA.mono (fun x hx _ => List.mem_append_left _ hx)).trans kB (fun x hx _ => List.mem_append_right _ hx), fun x hx _ => ?_⟩
    rcases List.mem_append.1 hx with h | h
    · exact Or.inr (Or.inr (hvb x (by simpa using h)))
    · exact Or.inr (Or.inl (by simpa using h))
end Go.Proofs.YtfodeeejolkkfaaGreat
namespace Go.Proofs.YtfodeeejolkkfaaGreat
open Go.RowKit Go.Lib

theorem upd258 {w : World} {r : Nat} {L : List (Int × Value)} (hM : MapAt w r L) (k : Int) (v : Value) :
    (Instr.mapUpdate 258 (.map (some r)) (.int .i64 k) v).run Tryz.prog w = .ok () (updW w 258 r k v) ∧ MapAt (updW w 258 r k v) r (putL L k v) ∧ Chg [r] w (updW w 258 r k v) :=
  updW_is (mty := 258) (kt := 3) (et := 265) (by kernel_rfl) (by kernel_rfl) hM k v
/-- the own row of a block's versions. -/
theorem VerG.own {w : World} {lo X rx : Nat} {last : Int} {L : List (Int × Value)} {vs : Int → List (Int × List UInt8)} {b : Int} (h : VerG w lo X rx last L vs) (h0 : 0 ≤ b) (h1 : b < 258) : ∃ v xs, (getL L b).getD (.slice none 0 0) = v ∧ (getL L b = some v ∨ getL L b = none ∧ v = .slice none 0 0) ∧ w.ownsRow lo 267 2 v (vs b).length xs ∧
    ∀ i (h : i < (vs b).length), xs[i * 2]? = some (.int .i64 (vs b)[i].1) ∧ ∃ g c, xs[i * 2 + 1]? = some (.slice (some ⟨g, 0, none⟩) 40 c) ∧ Bs w (some ⟨g, 0, none⟩) (vs b)[i].2 ∧ (vs b)[i].2.length = 40 ∧ Bt w g := by
  rcases h.row b h0 h1 with ⟨e1, e2⟩ | ⟨u, e1, ⟨xs, e2, e3⟩, -⟩
  · refine ⟨_, [], by rw [e1]; rfl, Or.inr ⟨e1, rfl⟩, ?_, fun i hi => ?_⟩
    · rw [e2]; exact World.ownsRow_nil _ _ _ _
    · rw [e2] at hi; simp at hi
  · exact ⟨u, xs, by rw [e1]; rfl, Or.inl e1, e2, e3⟩
theorem VerG.timed {w : World} {lo X rx : Nat} {last : Int} {L : List (Int × Value)} {vs : Int → List (Int × List UInt8)} (h : VerG w lo X rx last L vs) (k : Int) : VerG (w.setCell ⟨X, 2, none⟩ (.int .i64 k)) lo X rx k L vs := by
  have kS := Chg.set w X 2 (.int .i64 k)
  refine ⟨heap_set h.x 2 _ rfl, h.m.keep kS (by simpa using map_cells h.m h.x), fun b h0 h1 => ?_, h.small⟩
  rcases h.row b h0 h1 with e | ⟨v, e1, e2, e3⟩
  · exact Or.inl e
  · refine Or.inr ⟨v, e1, e2.keep kS (Av.row h.x (by decide)) (fun g hg hm => ?_), e3⟩
    obtain ⟨cs, hh⟩ := e2.block g hg
    rw [List.mem_singleton] at hm
    subst hm
    rw [h.x] at hh
    cases hh
/-- versions while a transaction is taken in: behind j puts. -/
structure Ap (w wr : World) (lo X rx : Nat) (last k : Int) (vs : Int → List (Int × List UInt8)) (l : List (Int × List UInt8)) (j : Nat) : Prop where
  ver : ∃ L, VerG wr lo X rx last L (applyV vs k (l.take j)) ∧ ApL L ∧ ∀ p ∈ L, 0 ≤ p.1 ∧ p.1 < 258
  cv : Cv lo X rx w wr
theorem Ap.keep {w wr wz : World} {lo X rx : Nat} {last k : Int} {vs : Int → List (Int × List UInt8)} {l : List (Int × List UInt8)} {j : Nat} (h : Ap w wr lo X rx last k vs l j) (hc : Chg [] wr wz) : Ap w wz lo X rx last k vs l j := by
  obtain ⟨L, h1, h2, h3⟩ := h.ver
  exact ⟨⟨L, h1.keep hc, h2, h3⟩, h.cv.then hc⟩
set_option maxRecDepth 100000 in
set_option maxHeartbeats 8000000 in
theorem apply_ok (w : World) {lo X rx lp cb : Nat} {last k : Int} {pb : Option Addr} {Lv : List (Int × Value)} {vs : Int → List (Int × List UInt8)} {l : List (Int × List UInt8)} (hv : VerG w lo X rx last Lv vs) (hap : ApL Lv) (hkeys : ∀ p ∈ Lv, 0 ≤ p.1 ∧ p.1 < 258) (hlo : lo ≤ w.heap.size)
    (hp : PutsAt w lp (.slice pb l.length cb) l) (hk : ∀ x ∈ l, 0 ≤ x.1 ∧ x.1 < 258) (hr : Rise l) (hl0 : 0 < l.length) (hl : l.length ≤ 16) (hk0 : last < k) (hk1 : k ≤ 1099511627776) (hs : ∀ c, (vs c).length + 16 < 1000000) :
    Calls Tryz.prog 105 #[.pointer (some ⟨X, 0, none⟩), .agg #[.int .i64 k, .slice pb l.length cb]] w fun e w' => e = .returned (.int .i64 0) ∧ Cv lo X rx w w' ∧ ∃ Lv', VerG w' lo X rx k Lv' (applyV vs k l) ∧ ApL Lv' ∧ ∀ p ∈ Lv', 0 ≤ p.1 ∧ p.1 < 258 := by
  obtain ⟨gp, cap, gd0, cd0, hvv, hcap, -, -, -, -, -⟩ := hp.get 0 hl0
  cases hvv
  have k0 : Chg [] w (w.alloc (.cells #[.int .i64 k, .slice (some ⟨gp, 0, none⟩) l.length cb] 189)) := Chg.alloc w _
  have K0 := heap_new w (.cells #[.int .i64 k, .slice (some ⟨gp, 0, none⟩) l.length cb] 189)
  have hv0 := hv.keep k0
  have hp0 := hp.keep0 k0
  have hA0 : Ap w (w.alloc (.cells #[.int .i64 k, .slice (some ⟨gp, 0, none⟩) l.length cb] 189)) lo X rx last k vs l 0 := ⟨⟨Lv, hv0, hap, hkeys⟩, Cv.of_chg k0⟩
  have x0 : (w.alloc (.cells #[.int .i64 k, .slice (some ⟨gp, 0, none⟩) l.length cb] 189)).cell? ⟨X, 0, none⟩ = some (.int .i64 258) := cell_is hv0.x 0 rfl
  have x2 : (w.alloc (.cells #[.int .i64 k, .slice (some ⟨gp, 0, none⟩) l.length cb] 189)).cell? ⟨X, 2, none⟩ = some (.int .i64 last) := cell_is hv0.x 2 rfl
  have b0 : (w.alloc (.cells #[.int .i64 k, .slice (some ⟨gp, 0, none⟩) l.length cb] 189)).cell? ⟨w.heap.size, 0, none⟩ = some (.int .i64 k) := cell_is K0 0 rfl
  have b1 : (w.alloc (.cells #[.int .i64 k, .slice (some ⟨gp, 0, none⟩) l.length cb] 189)).cell? ⟨w.heap.size, 1, none⟩ = some (.slice (some ⟨gp, 0, none⟩) l.length cb) := cell_is K0 1 rfl
  have HG := Lib.hid (xgone_any _ x0)
  have n0 : decide (k ≤ last) = false := decide_eq_false (by omega)
  have n1 : decide (1099511627776 < k) = false := decide_eq_false (by omega)
  have HKB := Lib.hid (fun w1 (kk : Chg [] (w.alloc (.cells #[.int .i64 k, .slice (some ⟨gp, 0, none⟩) l.length cb] 189)) w1) b (h0 : 0 ≤ b) (h1 : b < 258) => gblock_any w1 (b := b) (hv0.keep kk) h0 h1)
  have HRs := Lib.hid (fun w1 (kk : Chg [] (w.alloc (.cells #[.int .i64 k, .slice (some ⟨gp, 0, none⟩) l.length cb] 189)) w1) => rise_ok w1 (hp0.keep0 kk) hr hl0 (by omega))
  have HCp := Lib.hid (fun w1 (kk : Chg [] (w.alloc (.cells #[.int .i64 k, .slice (some ⟨gp, 0, none⟩) l.length cb] 189)) w1) => contputs_164 w1 (hp0.keep0 kk) hk (by omega))
  have HP := Lib.hid hp0
  have HA := Lib.hid hA0
  have HK := Lib.hid hk
  have HS := Lib.hid hs
  have hl0i : (0 : Int) < l.length := by omega
  have hcapi : (l.length : Int) ≤ cb := by omega
  have hmn : l.length - 1 < l.length := by omega
  clear hv hap hkeys hv0 hp hp0 hr hA0 hk x0 hs
  go_enter Tryz.func105, Tryz.ntmps105
  go_wp2_with fail
  generalize w.alloc (.cells #[.int .i64 k, .slice (some ⟨gp, 0, none⟩) l.length cb] 189) = w1 at *
  generalize hz : w.heap.size = z at *
  refine HG.out.mono ?_
  rintro e w2 ⟨rfl, rfl⟩
  go_wp2_with fail
  go_quiet (fail)
  have b0' : (w1.drewN nq).cell? ⟨z, 0, none⟩ = some (.int .i64 k) := b0
  have b1' : (w1.drewN nq).cell? ⟨z, 1, none⟩ = some (.slice (some ⟨gp, 0, none⟩) l.length cb) := b1
  have kd : Chg [] w1 (w1.drewN nq) := (Chg.refl [] w1).drewN nq
  have HAd := Lib.hid (HA.out.keep kd)
  have K0d := kd.heap K0 (by simp)
  clear b0 b1 x2 n0 n1 HA K0 HG
  go_wp2_with fail
  refine (HRs.out _ kd).mono ?_
  rintro e w2 ⟨rfl, k2⟩
  have hp2 := HP.out.keep0 (kd.then k2)
  obtain ⟨gp1, cap1, gd1, cd1, hv1, -, d0, -, -, -, -⟩ := hp2.get 0 hl0
  obtain ⟨gp2, cap2, gd2, cd2, hv2, -, dm, -, -, -, -⟩ := hp2.get (l.length - 1) hmn
  cases hv1
  cases hv2
  have hk0b := HK.out _ (List.getElem_mem hl0)
  have hkmb := HK.out _ (List.getElem_mem (hmn))
  have b12 := k2.cell b1' (by simp)
  have HB0 := Lib.hid (HKB.out w2 (kd.then k2) _ hk0b.1 hk0b.2)
  have HBm := Lib.hid (HKB.out w2 (kd.then k2) _ hkmb.1 hkmb.2)
  have HA2 := Lib.hid (HAd.out.keep k2)
  have K2 := k2.heap K0d (by simp)
  clear HRs b1' hp2 HAd K0d hk0b hkmb
  generalize (l[0]'hl0).1 = y0 at *
  generalize (l[l.length - 1]'(hmn)).1 = ym at *
  go_wp2_with fail
  refine HB0.out.mono ?_
  rintro e w3 ⟨rfl, rfl⟩
  go_wp2_with fail
  refine HBm.out.mono ?_
  rintro e w3 ⟨rfl, rfl⟩
  go_wp2_with fail
  refine (HCp.out w2 (kd.then k2)).mono ?_
  rintro e w3 ⟨rfl, k3⟩
  have b13 := k3.cell b12 (by simp)
  have HA3 := Lib.hid (HA2.out.keep k3)
  have HP3 := Lib.hid (HP.out.keep0 ((kd.then k2).then k3))
  have K3 := k3.heap K2 (by simp)
  have hz3 : lo ≤ w3.heap.size := by have := HA3.out.cv.size; omega
  have hzlt := heap_lt K3
  clear HB0 HBm HCp HKB d0 dm b12 HA2 K2 HP k2 k3 kd
  clear hmn
  go_wp2_with fail
  go_loopw [6, 58] (fun _ i wr => ∃ j : Nat, j ≤ l.length ∧ i = .int .i64 j ∧ Ap w wr lo X rx last k vs l j ∧ PutsAt wr lp (.slice (some ⟨gp, 0, none⟩) l.length cb) l ∧ wr.heap[z]? = some (.cells #[.int .i64 k, .slice (some ⟨gp, 0, none⟩) l.length cb] 189 (0, 0)) ∧ lo ≤ wr.heap.size) (fun _ i _ => l.length - (intOf i).toNat)
  case atStart => exact ⟨0, by omega, rfl, HA3.out, HP3.out, K3, hz3⟩
  case round =>
    obtain ⟨j, hj, rfl, hAr, hPr, Kr, hlr⟩ := hrel
    rename World => wr
    clear HA3 HP3 K3 hz3 b13
    by_cases hlt : j < l.length
    · obtain ⟨L, hver, hap, hkeys⟩ := hAr.ver
      obtain ⟨gp3, cap3, gd, cd, hv3, -, d0, d1, hbs, hbl, hbt⟩ := hPr.get j hlt
      cases hv3
      have hkj := HK.out _ (List.getElem_mem hlt)
      obtain ⟨v, xs, hgv, hgl, hown, hxs⟩ := hver.own hkj.1 hkj.2
      have HX := Lib.hid hxs
      have HO := Lib.hid hown
      have HV := Lib.hid hver
      have HAp := Lib.hid hap
      have HKs := Lib.hid hkeys
      have HGl := Lib.hid hgl
      have HPr := Lib.hid hPr
      have HAr := Lib.hid hAr
      have HBs := Lib.hid hbs
      have HBt := Lib.hid hbt
      have HKr := Lib.hid Kr
      have hlti : (j : Int) < l.length := by omega
      have kp : Chg [] wr (wr.alloc (.cells #[.int .i64 (l[j]'hlt).1, .slice (some ⟨gd, 0, none⟩) 40 cd] 92)) := Chg.alloc wr _
      have Kp := heap_new wr (.cells #[.int .i64 (l[j]'hlt).1, .slice (some ⟨gd, 0, none⟩) 40 cd] 92)
      have hlen : ((applyV vs k (l.take j)) (l[j]'hlt).1).length ≤ 1000000 := by
        have h1 := applyV_len vs k (l.take j) (l[j]'hlt).1
        have h2 := HS.out (l[j]'hlt).1
        simp only [List.length_take] at h1
        omega
      have HLn := Lib.hid hlen
      have HKj := Lib.hid hkj
      have HLr := Lib.hid hlr
      have HVl := Lib.hid (show ∀ c, ((applyV vs k (l.take j)) c).length < 1000000 from fun c => by
        have h1 := applyV_len vs k (l.take j) c
        have h2 := HS.out c
        simp only [List.length_take] at h1
        omega)
      have hd40 := Lib.hid hbl
      have HT := Lib.hid (applyV_take vs k l j hlt)
      clear hver hap hkeys hown hxs hgl hPr hAr hbs hbt hbl hkj hlen
      generalize hb' : (l[j]'hlt).1 = b at *
      generalize hd' : (l[j]'hlt).2 = d at *
      generalize applyV vs k (l.take j) = vj at *
      go_upto_block 2 with fail
      go_cut [6] from 60 to 83 (fun _ wx => Ap w wx lo X rx last k vs l (j + 1) ∧ PutsAt wx lp (.slice (some ⟨gp, 0, none⟩) l.length cb) l ∧ wx.heap[z]? = some (.cells #[.int .i64 k, .slice (some ⟨gp, 0, none⟩) l.length cb] 189 (0, 0)) ∧ lo ≤ wx.heap.size)
      case rest =>
        obtain ⟨q1, q2, q3, q4⟩ := hcut
        go_wp2_with fail
        exact ⟨⟨j + 1, by omega, by go_num, q1, q2, q3, q4⟩, by simp [intOf]; omega⟩
      go_wp2_with fail
      have hV5 := HV.out.keep kp
      have x1 : (wr.alloc (.cells #[.int .i64 b, .slice (some ⟨gd, 0, none⟩) 40 cd] 92)).cell? ⟨X, 1, none⟩ = some (.map (some rx)) := cell_is hV5.x 1 rfl
      have p0 : (wr.alloc (.cells #[.int .i64 b, .slice (some ⟨gd, 0, none⟩) 40 cd] 92)).cell? ⟨wr.heap.size, 0, none⟩ = some (.int .i64 b) := cell_is Kp 0 rfl
      have p1 : (wr.alloc (.cells #[.int .i64 b, .slice (some ⟨gd, 0, none⟩) 40 cd] 92)).cell? ⟨wr.heap.size, 1, none⟩ = some (.slice (some ⟨gd, 0, none⟩) 40 cd) := cell_is Kp 1 rfl
      have b0 : (wr.alloc (.cells #[.int .i64 b, .slice (some ⟨gd, 0, none⟩) 40 cd] 92)).cell? ⟨z, 0, none⟩ = some (.int .i64 k) := cell_is (kp.heap Kr (by simp)) 0 rfl
      have HLk := Lib.hid (fun wx (kx : Chg [] wr wx) => show (Instr.lookup 258 (.map (some rx)) (.int .i64 b) false).run Tryz.prog wx = .ok v wx from by
        have := lookup258g (HV.out.keep kx).m b
        rw [hgv] at this
        exact this)
      generalize hw5 : wr.alloc (.cells #[.int .i64 b, .slice (some ⟨gd, 0, none⟩) 40 cd] 92) = w5 at *
      have hzp : wr.heap.size ≤ w5.heap.size := kp.size
      have kd : Chg [] wr w5.drew := kp.drew
      have hXn : X ∉ v.ownBlock.toList := own_block_ne HO.out HV.out.x (by decide)
      have hrn : rx ∉ v.ownBlock.toList := fun hm => by
        obtain ⟨-, cs, hh⟩ := own_elem HO.out (show v.ownBlock = some rx by simpa using hm)
        exact map_cells HV.out.m hh rfl
      have hzn : wr.heap.size ∉ v.ownBlock.toList := own_block_ne (ownsRow_av HO.out kp (Av.nil _ _)) Kp (by decide)
      have HXn := Lib.hid hXn
      have HRn := Lib.hid hrn
      have HZn := Lib.hid hzn
      have HBn := Lib.hid (own_block_ne (ownsRow_av HO.out kp (Av.nil _ _)) (kp.heap HKr.out (by simp)) (by decide) : z ∉ v.ownBlock.toList)
      clear hXn hrn hzn
      have hl5 : lo ≤ w5.drew.heap.size := Nat.le_trans hlr hzp
      have hlk5 := HLk.out w5.drew kd
      have x1d : w5.drew.cell? ⟨X, 1, none⟩ = some (.map (some rx)) := x1
      have p0d : w5.drew.cell? ⟨wr.heap.size, 0, none⟩ = some (.int .i64 b) := p0
      have p1d : w5.drew.cell? ⟨wr.heap.size, 1, none⟩ = some (.slice (some ⟨gd, 0, none⟩) 40 cd) := p1
      have b0d : w5.drew.cell? ⟨z, 0, none⟩ = some (.int .i64 k) := b0
      clear hgv d0 d1 Kr
      generalize wr.heap.size = zp at *
      go_region_held3 (fun wx => wx.cell? ⟨X, 1, none⟩ = some (.map (some rx)) ∧ wx.cell? ⟨zp, 0, none⟩ = some (.int .i64 b) ∧ wx.cell? ⟨zp, 1, none⟩ = some (.slice (some ⟨gd, 0, none⟩) 40 cd) ∧ wx.cell? ⟨z, 0, none⟩ = some (.int .i64 k))
        (first
          | (exact ⟨x1d, p0d, p1d, b0d⟩)
          | (exact ⟨x16, p06, p16, b06⟩)
          | (exact ⟨x1y, p0y, p1y, b0y⟩)
          | (exact ⟨x17, p07, p17, b07⟩)
          | (exact ⟨k9.cell x17 (by simpa using cell_map m7 x17), k9.cell p07 (by simpa using cell_map m7 p07), k9.cell p17 (by simpa using cell_map m7 p17), k9.cell b07 (by simpa using cell_map m7 b07)⟩))
        (first
          | (go_simp; go_at_call 113; refine (clone_bt w5.drew (l := d) (m := 40) hd40.out (by decide) (by decide) (HBs.out.chg kd)).mono ?_; rintro e w6 ⟨g2, c2, rfl, k6, bs6, l6, bt6⟩; have k6r := kd.then k6; have x16 := k6.cell x1d (by simp); have p06 := k6.cell p0d (by simp); have p16 := k6.cell p1d (by simp); have b06 := k6.cell b0d (by simp); have hlk6 := HLk.out w6 k6r; have ky : Chg [] wr (w6.alloc (.cells #[.int .i64 k, .slice (some ⟨g2, 0, none⟩) 40 c2] 267)) := k6r.then_alloc _; have y0 := heap_new w6 (.cells #[.int .i64 k, .slice (some ⟨g2, 0, none⟩) 40 c2] 267); have kyy : Chg [] w6 (w6.alloc (.cells #[.int .i64 k, .slice (some ⟨g2, 0, none⟩) 40 c2] 267)) := Chg.alloc w6 _; have x1y := kyy.cell x16 (by simp); have p0y := kyy.cell p06 (by simp); have p1y := kyy.cell p16 (by simp); have b0y := kyy.cell b06 (by simp); have hlky := HLk.out _ ky; have oy := ownsRow_av HO.out ky (Av.nil _ _); have hby : lo ≤ (w6.alloc (.cells #[.int .i64 k, .slice (some ⟨g2, 0, none⟩) 40 c2] 267)).heap.size := (by have := k6.size; have := kyy.size; omega))
          | (refine step_append_ver rfl (.tmp 74) (.tmp 81) rfl lo _ _ xs rfl oy w6.heap.size 1 _ _ rfl (cell_is y0 0 rfl) (cell_is y0 1 rfl) ⟨rfl, rfl⟩ HLn.out hby ?_; intro g7 cp7 w7 o7 k7 i7; have x17 := k7.cell x1y HXn.out; have p07 := k7.cell p0y HZn.out; have p17 := k7.cell p1y HZn.out; have b07 := k7.cell b0y HBn.out; have m7 := (HV.out.keep ky).m.keep k7 HRn.out; obtain ⟨hmu, m8, k9⟩ := upd258 m7 b (.slice (some ⟨g7, 0, none⟩) ((vj b).length + 1) cp7)))
      all_goals
        obtain ⟨hvF, haF, hcF⟩ := VerG.added (d := d) (k := k) (HV.out.keep ky) HAp.out HKs.out HGl.out oy (fun i hi => by
          obtain ⟨e1, g', c', e2, e3, e4, e5⟩ := HX.out i hi
          exact ⟨e1, g', c', e2, e3.chg ky, e4, Bt.keep e5 ky (by simp)⟩) rfl o7 k7 i7 (bs6.chg kyy) hd40.out (Bt.keep bt6 kyy (by simp)) m8 k9 (fun c => by
          have := HVl.out c
          omega)
        have hkF : ∀ p ∈ putL L b (.slice (some ⟨g7, 0, none⟩) ((vj b).length + 1) cp7), 0 ≤ p.1 ∧ p.1 < 258 := putL_keys (P := fun x => 0 ≤ x ∧ x < 258) HKs.out HKj.out
        have hcC : Cv lo X rx wr (updW w7 258 rx b (.slice (some ⟨g7, 0, none⟩) ((vj b).length + 1) cp7)) := (Cv.of_chg ky).trans hcF
        have hA' := Lib.hid (Ap.mk (w := w) (last := last) (k := k) (vs := vs) (l := l) (j := j + 1) ⟨_, HT.out ▸ hvF, haF, hkF⟩ (HAr.out.cv.trans hcC))
        obtain ⟨TT, hT1, hT2⟩ := hcC
        have hXr := HV.out.x
        have hmr := HV.out.m
        have hP' := Lib.hid (HPr.out.keep hT1 (Cv.av hT2 hXr hmr (by decide) (by decide)) (fun g hg hm => by
          obtain ⟨-, cs, hh⟩ := HPr.out.block g hg
          exact (Cv.av (ts := [92]) hT2 hXr hmr (by decide) (by decide)).ne hh (by simp) hm))
        have hK' := Lib.hid (hT1.heap HKr.out ((Cv.av (ts := [189]) hT2 hXr hmr (by decide) (by decide)).ne HKr.out (by simp)))
        have hS' := Lib.hid (show lo ≤ (updW w7 258 rx b (.slice (some ⟨g7, 0, none⟩) ((vj b).length + 1) cp7)).heap.size from by
          have := k6.size
          have := kyy.size
          have := hcF.size
          omega)
        clear hvF haF hcF hkF hT1 hT2 hXr hmr hmu
        go_wp2_with fail
        go_meet
        exact ⟨hA'.out, hP'.out, hK'.out, hS'.out⟩
    · obtain rfl : j = l.length := by omega
      obtain ⟨L, hver, hap, hkeys⟩ := hAr.ver
      rw [List.take_length] at hver
      have b13 : wr.cell? ⟨z, 0, none⟩ = some (.int .i64 k) := cell_is Kr 0 rfl
      have x2 : wr.cell? ⟨X, 2, none⟩ = some (.int .i64 last) := cell_is hver.x 2 rfl
      have f2 := unfrozen hver.x 2
      have HV := Lib.hid (hver.timed k)
      have HC := Lib.hid (hAr.cv.trans ⟨[X], Chg.set wr X 2 (.int .i64 k), fun x hx _ => Or.inl (by simpa using hx)⟩)
      clear hver hAr hPr Kr
      go_wp2_with fail
      go_ret
      exact ⟨rfl, HC.out, L, HV.out, hap, hkeys⟩
end Go.Proofs.YtfodeeejolkkfaaGreat
namespace Go.Proofs.YtfodeeejolkkfaaGreat
open Go.RowKit Go.Lib

set_option maxRecDepth 100000 in
theorem hopen_gen (w : World) {B rb : Nat} {bl t : Int} (h : BookAt w B rb bl []) (h0 : 0 ≤ t) (h1 : t ≤ 1099511627776) (hb0 : 0 ≤ bl) (hb1 : bl ≤ 1000000) : Calls Tryz.prog 106 #[.pointer (some ⟨B, 0, none⟩), .int .i64 t] w fun e w' => e = .returned (.tuple #[.int .i64 (bl + 1), .int .i64 0]) ∧ Chg [B, rb] w w' ∧ BookAt w' B rb (bl + 1) [(bl + 1, .int .i64 t)] := by
  have n0 : decide (t < 0) = false := decide_eq_false (by omega)
  have n1 : decide (1099511627776 < t) = false := decide_eq_false (by omega)
  have hw : wrap64 (bl + 1) = bl + 1 := by unfold wrap64; omega
  clear h0 h1
  go_enter Tryz.func106, Tryz.ntmps106
  go_wp2_with fail
  refine (count_none w h).mono ?_
  rintro e w1 ⟨rfl, hc⟩
  have h1 := h.keep hc (by simp) (by simp)
  go_wp2_with fail
  refine (room_any w1 h1).mono ?_
  rintro e w2 ⟨rfl, rfl⟩
  have c1 : w1.cell? ⟨B, 1, none⟩ = some (.int .i64 bl) := cell_is h1.1 1 rfl
  have f1 := unfrozen h1.1 1
  have h2 : (w1.setCell ⟨B, 1, none⟩ (.int .i64 (bl + 1))).heap[B]? = some (.cells #[.int .i64 16, .int .i64 (bl + 1), .map (some rb)] 270 (0, 0)) := heap_set h1.1 1 _ rfl
  have hne : rb ≠ B := map_cells h1.2 h1.1
  have k2 := Chg.set w1 B 1 (.int .i64 (bl + 1))
  have m2 : MapAt (w1.setCell ⟨B, 1, none⟩ (.int .i64 (bl + 1))) rb [] := h1.2.keep k2 (by simpa using hne)
  have hc2 : Chg [B, rb] w (w1.setCell ⟨B, 1, none⟩ (.int .i64 (bl + 1))) := (hc.mono (T := [B, rb]) (fun x hx _ => by cases hx)).then (k2.mono (fun x hx _ => by simp at hx; simp [hx]))
  clear h1 h
  go_wp2_with fail
  generalize w1.setCell ⟨B, 1, none⟩ (.int .i64 (bl + 1)) = w2 at *
  have e1 : w2.cell? ⟨B, 1, none⟩ = some (.int .i64 (bl + 1)) := cell_is h2 1 rfl
  have e2 : w2.cell? ⟨B, 2, none⟩ = some (.map (some rb)) := cell_is h2 2 rfl
  have m3 : MapAt w2.drew rb [] := m2
  obtain ⟨w3, hmu, m4, k3, hs3⟩ := run_update_im (P := Tryz.prog) (mty := 268) (kt := 3) (et := 3) (by kernel_rfl) (by kernel_rfl) m3 (bl + 1) (.int .i64 t)
  go_region_held3 (fun wx => wx.cell? ⟨B, 1, none⟩ = some (.int .i64 (bl + 1)) ∧ wx.cell? ⟨B, 2, none⟩ = some (.map (some rb))) (first | (exact ⟨e1, e2⟩) | (exact ⟨k3.cell e1 (by simpa using hne.symm), k3.cell e2 (by simpa using hne.symm)⟩)) (fail)
  have g3 : w3.heap[B]? = some (.cells #[.int .i64 16, .int .i64 (bl + 1), .map (some rb)] 270 (0, 0)) := k3.heap (g := B) h2 (by simpa using hne.symm)
  have e3 : w3.cell? ⟨B, 1, none⟩ = some (.int .i64 (bl + 1)) := cell_is g3 1 rfl
  clear e1 e2 hmu
  go_wp2_with fail
  go_ret2
  exact ⟨rfl, hc2.then (Chg.trans (Chg.refl [B, rb] w2).drew k3 (fun x hx _ => by simp at hx; simp [hx])), g3, m4⟩
set_option maxRecDepth 100000 in
theorem vnew_gen (w : World) (X W : Nat) (t : Int) : Calls Tryz.prog 109 #[.pointer (some ⟨X, 0, none⟩), .pointer (some ⟨W, 0, none⟩), .int .i64 t] w fun e w' => ∃ Q V, e = .returned (.pointer (some ⟨Q, 0, none⟩)) ∧ Chg [] w w' ∧ ViewT w' Q X W V t (.slice none 0 0) ∧ SpansAt w' V (.slice none 0 0) ∧ w.heap.size ≤ Q ∧ w.heap.size ≤ V := by
  go_enter Tryz.func109, Tryz.ntmps109
  go_wp2_with fail
  refine (inew_any w).mono ?_
  rintro e w1 ⟨V, rfl, hc, hV, l⟩
  have hs := hc.size
  have h1 := heap_new w1 (.cells #[.pointer (some ⟨X, 0, none⟩), .pointer (some ⟨W, 0, none⟩), .int .i64 t, .pointer (some ⟨V, 0, none⟩), .slice none 0 0] 275)
  go_wp2_with fail
  go_ret
  exact ⟨w1.heap.size, V, rfl, hc.then_alloc _, h1, heap_old hV, hs, l⟩
/-- what a manager's blocks hold. -/
structure Gs where
  qv : Value
  out : Int
  num : Int
  bas : Int
  last : Int
  given : Int
  rd : Bool
  lo : Nat
  lastv : Int
  Lv : List (Int × Value)
  vs : Int → List (Int × List UInt8)
  bl : Int
  Lb : List (Int × Value)
  Lr : List (Int × Value)
/-- a manager with all its parts, in general. -/
structure Mx (w : World) (M X rx B rb r : Nat) (s : Gs) : Prop where
  mgr : MgrG w M X B r s.qv s.out s.num s.bas s.last s.given s.rd
  ver : VerG w s.lo X rx s.lastv s.Lv s.vs
  book : BookAt w B rb s.bl s.Lb
  map : MapAt w r s.Lr
  n1 : rx ≠ rb
  n2 : r ≠ rb
  n3 : r ≠ rx
theorem Mx.keep {w w' : World} {M X rx B rb r : Nat} {s : Gs} (h : Mx w M X rx B rb r s) (hc : Chg [] w w') : Mx w' M X rx B rb r s :=
  ⟨hc.heap h.mgr (by simp), h.ver.keep hc, h.book.keep hc (by simp) (by simp), h.map.keep hc (by simp), h.n1, h.n2, h.n3⟩
theorem Mx.cells {w : World} {M X rx B rb r : Nat} {s : Gs} (h : Mx w M X rx B rb r s) : w.cell? ⟨M, 0, none⟩ = some (.pointer (some ⟨X, 0, none⟩)) ∧ w.cell? ⟨M, 1, none⟩ = some (.pointer (some ⟨B, 0, none⟩)) ∧ w.cell? ⟨M, 2, none⟩ = some (.map (some r)) ∧ w.cell? ⟨M, 7, none⟩ = some (.int .i64 s.last) :=
  ⟨cell_is h.mgr 0 rfl, cell_is h.mgr 1 rfl, cell_is h.mgr 2 rfl, cell_is h.mgr 7 rfl⟩
/-- .. when its book alone has changed. -/
theorem Mx.opened {w w' : World} {M X rx B rb r : Nat} {s : Gs} {bl' : Int} {Lb' : List (Int × Value)} (h : Mx w M X rx B rb r s) (hc : Chg [B, rb] w w') (hb : BookAt w' B rb bl' Lb') : Mx w' M X rx B rb r { s with bl := bl', Lb := Lb' } := by
  have av : Av w [B, rb] [180, 260, 267, 5] := fun x hx cs t fr hh => by
    simp at hx
    rcases hx with rfl | rfl
    · rw [h.book.1] at hh; cases hh; simp
    · exact absurd rfl (map_cells h.book.2 hh)
  have nm : ∀ {x L}, MapAt w x L → x ≠ rb → x ∉ [B, rb] := fun hm hx => by simp; exact ⟨map_cells hm h.book.1, hx⟩
  exact ⟨hc.heap h.mgr (av.ne h.mgr (by simp)), h.ver.keepA hc (fun x hx cs t fr hh ht => av x hx cs t fr hh (List.mem_cons_of_mem _ ht)) (nm h.ver.m h.n1), hb, h.map.keep hc (nm h.map h.n2), h.n1, h.n2, h.n3⟩
/-- .. when its table of transactions alone has changed. -/
theorem Mx.table {w w' : World} {M X rx B rb r : Nat} {s : Gs} {Lr' : List (Int × Value)} (h : Mx w M X rx B rb r s) (hc : Chg [r] w w') (hb : MapAt w' r Lr') : Mx w' M X rx B rb r { s with Lr := Lr' } := by
  have av : ∀ ts, Av w [r] ts := fun ts => av_map h.map ts
  exact ⟨hc.heap h.mgr ((av [180]).ne h.mgr (by simp)), h.ver.keepA hc (av _) (by simpa using h.n3.symm), h.book.keep hc (by simpa using (map_cells h.map h.book.1).symm) (by simpa using h.n2.symm), hb, h.n1, h.n2, h.n3⟩
/-- what a manager's Begin leaves. -/
def BegR (w w' : World) (M X rx B rb r : Nat) (s : Gs) : Prop := ∃ T W rw Q V, Chg [B, rb, r] w w' ∧ Mx w' M X rx B rb r { s with bl := s.bl + 1, Lb := [(s.bl + 1, .int .i64 s.last)], Lr := putL s.Lr (s.bl + 1) (.pointer (some ⟨T, 0, none⟩)) } ∧ TxT w' T W Q s.last ∧ BufAt w' W rw [] ∧ ViewT w' Q X W V s.last (.slice none 0 0) ∧ SpansAt w' V (.slice none 0 0) ∧ rw ≠ r ∧ rw ≠ rb ∧ rw ≠ rx ∧ w.heap.size ≤ T ∧ w.heap.size ≤ W ∧ w.heap.size ≤ rw ∧ w.heap.size ≤ Q ∧ w.heap.size ≤ V
theorem tgone_x (w : World) {M X rx B rb r : Nat} {s : Gs} (h : Mx w M X rx B rb r s) : Calls Tryz.prog 98 #[.pointer (some ⟨M, 0, none⟩)] w fun e w' => e = .returned (.bool false) ∧ w = w' := by
  have c0 := h.cells.1
  clear h
  go_enter Tryz.func98, Tryz.ntmps98
  go_wp2_with fail
  go_ret
  exact ⟨rfl, rfl⟩
set_option maxRecDepth 100000 in
set_option maxHeartbeats 1000000 in
theorem tbegin_gen (w : World) {M X rx B rb r : Nat} {s : Gs} (h : Mx w M X rx B rb r s) (hLb : s.Lb = []) (h0 : 0 ≤ s.last) (h1 : s.last ≤ 1099511627776) (hb0 : 0 ≤ s.bl) (hb1 : s.bl ≤ 1000000) : Calls Tryz.prog 58 #[.pointer (some ⟨M, 0, none⟩)] w fun e w' =>
    e = .returned (.tuple #[.int .i64 (s.bl + 1), .int .i64 0]) ∧ BegR w w' M X rx B rb r s := by
  have hh := h.keep (Chg.refl [] w).drew
  have hbk := hh.book
  rw [hLb] at hbk
  have HO := Lib.hid (hopen_gen w.drew (t := s.last) hbk h0 h1 hb0 hb1)
  obtain ⟨t, ht⟩ : ∃ t, t = s.last := ⟨_, rfl⟩
  obtain ⟨bl, hbl⟩ : ∃ t, t = s.bl := ⟨_, rfl⟩
  obtain ⟨bn, hbn⟩ : ∃ t, t = bl + 1 := ⟨_, rfl⟩
  obtain ⟨c0, c1, c2, c7⟩ := h.cells
  rw [← hbl, ← hbn] at HO ⊢
  rw [← ht] at HO c7
  have HG := Lib.hid (tgone_x w h)
  have HT := Lib.hid ht
  have HBl := Lib.hid hbl
  have HBn := Lib.hid hbn
  have HM := Lib.hid h
  have HH := Lib.hid hh
  clear h0 h1 hb0 hb1 hLb hbk ht hbl hbn h hh
  go_enter Tryz.func58, Tryz.ntmps58
  go_wp2_with fail
  refine HG.out.mono ?_
  rintro e w1 ⟨rfl, rfl⟩
  go_wp2_with fail
  go_region_held3 (fun wx => wx.cell? ⟨M, 1, none⟩ = some (.pointer (some ⟨B, 0, none⟩)) ∧ wx.cell? ⟨M, 7, none⟩ = some (.int .i64 t)) (first | (exact ⟨c1, c7⟩) | (exact ⟨h2.cells.2.1, by rw [HT.out]; exact h2.cells.2.2.2⟩))
    (first
      | (go_at_call 106; refine HO.out.mono ?_; rintro e w2 ⟨rfl, k2, hb2⟩; have h2 := HH.out.opened k2 hb2))
  clear c0 c1 c2 c7 HO HG HH
  obtain ⟨c0, c1, c2, c7⟩ := h2.cells
  have c7' : w2.cell? ⟨M, 7, none⟩ = some (.int .i64 t) := by rw [HT.out]; exact c7
  clear c7
  have HB := Lib.hid (gblocks_any w2 h2.ver)
  have H2 := Lib.hid h2
  clear h2
  go_wp2_with fail
  refine HB.out.mono ?_
  rintro e w3 ⟨rfl, rfl⟩
  go_wp2_with fail
  refine (wnew_any w2).mono ?_
  rintro e w3 ⟨W, rw, rfl, k3, hW, l1, l2⟩
  have h3 := H2.out.keep k3
  clear c0 c1 c2 c7' HB
  obtain ⟨c0, c1, c2, c7⟩ := h3.cells
  have c7' : w3.cell? ⟨M, 7, none⟩ = some (.int .i64 t) := by rw [HT.out]; exact c7
  clear c7
  have H3 := Lib.hid h3
  have HW := Lib.hid hW
  clear h3 hW
  go_wp2_with fail
  go_region_held3 (fun wx => wx.cell? ⟨M, 0, none⟩ = some (.pointer (some ⟨X, 0, none⟩)) ∧ wx.cell? ⟨M, 1, none⟩ = some (.pointer (some ⟨B, 0, none⟩)) ∧ wx.cell? ⟨M, 2, none⟩ = some (.map (some r)) ∧ wx.cell? ⟨M, 7, none⟩ = some (.int .i64 t))
    (first
      | (exact ⟨c0, c1, c2, c7'⟩)
      | (rw [HT.out]; exact H4.out.cells)
      | (rw [HT.out]; exact (H4.out.keep (Chg.alloc (S := []) _ _)).cells)
      | (rw [HT.out]; exact ((H4.out.keep (Chg.alloc (S := []) w4 _)).table (upd178 (H4.out.keep (Chg.alloc (S := []) w4 _)).map _ _).2.2 (upd178 (H4.out.keep (Chg.alloc (S := []) w4 _)).map _ _).2.1).cells))
    (first
      | (go_at_call 109; refine (vnew_gen w3.drew X W t).mono ?_; rintro e w4 ⟨Q, V, rfl, k4, hQ, hV, l3, l4⟩; have H4 := Lib.hid ((H3.out.keep (Chg.refl [] w3).drew).keep k4); have hmu : ∀ o v, (Instr.mapUpdate 178 (.map (some r)) (.int .i64 bn) v).run Tryz.prog (w4.alloc o) = .ok () (updW (w4.alloc o) 178 r bn v) := fun o v => (upd178 (H4.out.map.keep (Chg.alloc (S := []) w4 o) (by simp)) bn v).1))
  have q1 := H2.out.map.lt
  have q2 := H2.out.book.2.lt
  have q3 := H2.out.ver.m.lt
  have h5 := H4.out.keep (Chg.alloc (S := []) w4 (.cells #[.int .i64 1, .int .i64 0, .int .i64 0, .int .i64 t, .pointer (some ⟨W, 0, none⟩), .pointer (some ⟨Q, 0, none⟩)] 173))
  have hT : TxT (w4.alloc (.cells #[.int .i64 1, .int .i64 0, .int .i64 0, .int .i64 t, .pointer (some ⟨W, 0, none⟩), .pointer (some ⟨Q, 0, none⟩)] 173)) w4.heap.size W Q t := heap_new w4 _
  have kx := Chg.alloc (S := []) w4 (.cells #[.int .i64 1, .int .i64 0, .int .i64 0, .int .i64 t, .pointer (some ⟨W, 0, none⟩), .pointer (some ⟨Q, 0, none⟩)] 173)
  have hW5 := HW.out.keep (((Chg.refl [] w3).drew.then k4).then kx) (by simp) (by simp)
  have hQ5 := kx.heap hQ (by simp)
  have hV5 := kx.heap hV (by simp)
  have kk := ((k2.mono (T := [B, rb, r]) (fun x hx _ => by simp at hx; rcases hx with rfl | rfl <;> simp)).then (k3.mono (fun x hx _ => by cases hx))).then ((((Chg.refl [] w3).drew.then k4).then kx).mono (fun x hx _ => by cases hx))
  have s4 := k4.size
  generalize w4.alloc (.cells #[.int .i64 1, .int .i64 0, .int .i64 0, .int .i64 t, .pointer (some ⟨W, 0, none⟩), .pointer (some ⟨Q, 0, none⟩)] 173) = w5 at *
  obtain ⟨-, mm, k6⟩ := upd178 h5.map bn (.pointer (some ⟨w4.heap.size, 0, none⟩))
  have h6 := h5.table k6 mm
  have t6 : TxT (updW w5 178 r bn (.pointer (some ⟨w4.heap.size, 0, none⟩))) w4.heap.size W Q t := k6.heap hT (by simpa using (map_cells h5.map hT).symm)
  have nr : rw ≠ r := by omega
  have b6 := hW5.keep k6 (by simpa using (map_cells h5.map hW5.1).symm) (by simpa using nr)
  have v6 := k6.heap hQ5 (by simpa using (map_cells h5.map hQ5).symm)
  have s6 := k6.heap hV5 (by simpa using (map_cells h5.map hV5).symm)
  have kf := kk.then (k6.mono (T := [B, rb, r]) (fun x hx _ => by simp at hx; simp [hx]))
  have hb1 : w.heap.size ≤ rw ∧ w.heap.size ≤ W := by have := k2.size; have h9 : w.drew.heap.size = w.heap.size := rfl; omega
  have hb2 : w.heap.size ≤ Q ∧ w.heap.size ≤ V := by have := k2.size; have := k3.size; have h9 : w.drew.heap.size = w.heap.size := rfl; have h8 : w3.drew.heap.size = w3.heap.size := rfl; omega
  have hb3 : w.heap.size ≤ w4.heap.size := by have := k2.size; have := k3.size; have h9 : w.drew.heap.size = w.heap.size := rfl; have h8 : w3.drew.heap.size = w3.heap.size := rfl; omega
  have n2 : rw ≠ rb := by omega
  have n3 : rw ≠ rx := by omega
  generalize w4.heap.size = T at *
  have HF := Lib.hid h6
  clear hmu q1 q2 q3 h5 h6 H4 H3 H2 HM kk hW5 hQ5 hV5 mm
  go_wp2_with fail
  go_ret2
  refine ⟨rfl, T, W, rw, Q, V, ?_⟩
  rw [← HBl.out, ← HBn.out, ← HT.out]
  have hF := HF.out
  rw [← HT.out] at hF
  exact ⟨(Chg.refl [B, rb, r] w).drew.then kf, hF, t6, b6, v6, s6, nr, n2, n3, hb3, hb1.2, hb1.1, hb2⟩
end Go.Proofs.YtfodeeejolkkfaaGreat
