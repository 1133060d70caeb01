/- Lemmas and walks: Walks: spans of two rows in one new row. The reference's sets: an extent is put into extents that rise (scarpref11.put 214), and the walk. Walks: an extent is put into extents that rise (scarpref11.put 214). Walks: a few spans are sorted. Walks: spans joined: there are no more of them than before. Walks: a span is added to a set of few spans. Walks: the reference's extents and sets: scarpref11.May 213, Set.Add 167 of one extent. Walks: a view reads one block. Walks: the store's Read of one block; what stands of a store with one transaction. Walks: the reference's manager is made. Walks: the reference's manager begins a transaction. Walks: the reference's Begin; a world of law 26 begins. Walks: a cell is got, set, added to. Walks: numbers as bytes, the least first. Walks: check sums. Walks: rows of bytes one behind the other in a new row. Walks: a frame's bytes. Walks: what a new device, store and world hold beside. -/
import Derived.Lib.AppendZeros
import Derived.Deep.RegionHeld3
import Derived.Deep.QuietTactic
import Derived.BigQuiet
import Derived.StillTailTactics
import Derived.Deep.AppendLies
import Derived.Test.YtelakcjbknbehaaGreatProg
import Derived.Laws.BitsAllLaws
import Derived.Test.YtelakcjbknbehaaGreatAa
import Derived.Test.YtelakcjbknbehaaGreatAb
import Derived.Test.YtelakcjbknbehaaGreatAd
namespace Go.Proofs.YtelakcjbknbehaaGreat
open Go.RowKit Go.Lib

/-- spans lie here, or there are none. -/
def SpQ (w : World) (pa : Option Addr) (l : List (Int × Int)) : Prop := (l = [] ∧ pa = none) ∨ ∃ b o, pa = some ⟨b, o, none⟩ ∧ Sp w b o l
theorem SpQ.keep {w w' : World} {pa : Option Addr} {l : List (Int × Int)} (h : SpQ w pa l) (hc : Chg [] w w') : SpQ w' pa l := by
  rcases h with h | ⟨b, o, h1, h2⟩
  · exact Or.inl h
  · exact Or.inr ⟨b, o, h1, h2.keep hc⟩
set_option maxRecDepth 100000 in
set_option maxHeartbeats 1000000 in
theorem grow_nil (w : World) {k : Nat} (h0 : 0 < k) (h1 : k ≤ 1000) : Calls Tryz.prog 284 #[.slice none 0 0, .int .i64 k] w fun e w' => ∃ v, e = .returned v ∧ Chg [] w w' ∧ w'.ownsRow w.heap.size 79 2 v 0 (spCells []) := by
  obtain ⟨i, hi0, hz, hz1, hz2⟩ := info_parts inf117
  have hr := fun ty => run_append_nil_zeros (P := Tryz.prog) w 175 3 ty 79 i (.agg #[.int .i64 0, .int .i64 0]) .i64 .i64 ty217 (by kernel_rfl) hi0 hz k h0 (by omega) (by omega) (by rw [hz2]; omega)
  have hge := grownCap_ge w k 0 79
  have hle := grownCap_le_maxLen w k 0 79 (by unfold maxLen; omega)
  have hsz : (Builtin.zeroCells (Value.agg #[.int .i64 0, .int .i64 0]).cells k ++ Builtin.zeroCells (Value.agg #[.int .i64 0, .int .i64 0]).cells (grownCap w k 0 79 - k)).size = grownCap w k 0 79 * 2 := by
    simp only [Array.size_append, size_zeroCells, Value.cells]
    simp
    omega
  generalize (Builtin.zeroCells (Value.agg #[.int .i64 0, .int .i64 0]).cells k ++ Builtin.zeroCells (Value.agg #[.int .i64 0, .int .i64 0]).cells (grownCap w k 0 79 - k)) = Z at *
  generalize grownCap w k 0 79 = G at *
  clear hi0 hz hz1 hz2
  have hk : ¬ ((k : Int) < 0) := by omega
  have hk2 : (k : Int) > 0 := by omega
  have hG63 : G ≤ 9223372036854775807 := by unfold maxLen at hle; omega
  have hf : (w.drew.alloc (.cells Z 79)).ownsRow w.heap.size 79 2 (.slice (some ⟨w.heap.size, 0, none⟩) 0 G) 0 (spCells []) := by
    refine ⟨rfl, Or.inr ⟨w.heap.size, G, Z, rfl, Nat.le_refl _, heap_new w.drew _, Nat.zero_le _, hle, hsz, by simp [spCells]⟩⟩
  have kc : Chg [] w (w.drew.alloc (.cells Z 79)) := (Chg.refl [] w).drew.then_alloc _
  go_enter Tryz.func284, Tryz.ntmps284
  go_wp2_with (at_builtin; refine Lib.wpList_append_run (w := w) rfl (.tmp 20) (.tmp 21) 175 3 rfl (.slice none 0 0) (.int .i64 k) rfl rfl _ _ (hr _) ?_)
  go_ret
  exact ⟨_, rfl, kc, hf⟩
theorem append_sp_q (w : World) (ty base : Nat) (v : Value) (n : Nat) (xs l : List (Int × Int)) (hown : w.ownsRow base 79 2 v n (spCells xs)) (pa : Option Addr) (m c : Nat) (hl : l.length = m) (hs : SpQ w pa l) (hn : n + m ≤ 1000000) (hbase : base ≤ w.heap.size) :
    ∃ v' w', (Builtin.append_ #[175, 175] ty #[v, .slice pa m c]).run Tryz.prog w = .ok v' w' ∧ AppendedV base 79 2 w v (n + m) (spCells (xs ++ l)) v' w' := by
  rcases hs with ⟨rfl, rfl⟩ | ⟨b, o, rfl, hs⟩
  · obtain rfl : 0 = m := hl
    obtain ⟨i, hi0, hz, hz1, hz2⟩ := info_parts inf117
    refine ⟨v, w, ?_, by simpa using hown, Below.refl _ _, World.grownBy.refl w _⟩
    rcases hown.2 with ⟨rfl, rfl⟩ | ⟨g, cap, cur, rfl, _, _, hnc, _⟩
    · simp [Builtin.append_, run_underlying ty217, sizeOf, typeInfo, hi0, Builtin.lenOf, Builtin.firstCells]
    · simp [Builtin.append_, run_underlying ty217, sizeOf, typeInfo, hi0, Builtin.lenOf, Builtin.firstCells, hnc, storeCells]
  · exact append_sp_own w ty base v n xs l hown b o m c hl hs hn hbase
theorem wpList_append_spq {ops : Array Oper} {rest : List Oper} {o : Oper} {a : Act} {w : World} {Q : Exit → Act → World → Prop} (hg : o.guard = none) (s x : Operand)
    (ho : o.op = .call { callee := .builtin .append, args := #[s, x], argTypes := #[175, 175] }) (base : Nat) (v : Value) (n : Nat) (xs l : List (Int × Int)) (hs : a.eval s = v) (hown : w.ownsRow base 79 2 v n (spCells xs))
    (pa : Option Addr) (m c : Nat) (hx : a.eval x = .slice pa m c) (hl : l.length = m) (hr : SpQ w pa l) (hn : n + m ≤ 1000000) (hbase : base ≤ w.heap.size)
    (h : ∀ v' w', AppendedV base 79 2 w v (n + m) (spCells (xs ++ l)) v' w' → wpList Tryz.prog ops Q rest (a.put o.dst v') w') : wpList Tryz.prog ops Q (o :: rest) a w := by
  obtain ⟨v', w', h1, h2⟩ := append_sp_q w o.type base v n xs l hown pa m c hl hr hn hbase
  exact Lib.wpList_append_run w hg s x 175 175 ho v (.slice pa m c) hs hx v' w' h1 (h v' w' h2)
set_option maxRecDepth 100000 in
set_option maxHeartbeats 2000000 in
theorem concat_two (w : World) {E cp m c m2 c2 : Nat} {pa pb : Option Addr} {l l2 : List (Int × Int)} (e0 : w.cell? ⟨E, 0, none⟩ = some (.slice pa m c)) (e1 : w.cell? ⟨E, 1, none⟩ = some (.slice pb m2 c2)) (hl : l.length = m) (hl2 : l2.length = m2) (hm : m ≤ 100) (hm2 : m2 ≤ 100) (hm0 : 0 < m + m2)
    (hs : SpQ w pa l) (hs2 : SpQ w pb l2) : Calls Tryz.prog 247 #[.slice (some ⟨E, 0, none⟩) 2 cp] w fun e w' => ∃ v, e = .returned v ∧ Chg [] w w' ∧ w'.ownsRow w.heap.size 79 2 v (m + m2) (spCells (l ++ l2)) := by
  have HS := Lib.hid hs
  have HS2 := Lib.hid hs2
  have HL := Lib.hid hl
  have HL2 := Lib.hid hl2
  clear hs hs2 hl hl2
  go_enter Tryz.func247, Tryz.ntmps247
  go_wp2_with fail
  go_loop [3, 11] (fun s i => (i = .int .i64 0 ∧ s = .int .i64 0) ∨ (i = .int .i64 1 ∧ s = .int .i64 m) ∨ (i = .int .i64 2 ∧ s = .int .i64 ((m + m2 : Nat) : Int))) (fun _ i => 2 - (intOf i).toNat)
  case atStart => exact Or.inl ⟨rfl, rfl⟩
  case round =>
    rcases hrel with ⟨rfl, rfl⟩ | ⟨rfl, rfl⟩ | ⟨rfl, rfl⟩
    · go_wp2_with fail
      go_round
      case rel => exact Or.inr (Or.inl ⟨rfl, by go_num⟩)
      case measure => decide
    · go_wp2_with fail
      go_round
      case rel => exact Or.inr (Or.inr ⟨rfl, by go_num⟩)
      case measure => decide
    · go_wp2_with fail
      refine (grow_nil w hm0 (by omega)).mono ?_
      rintro e w1 ⟨v0, rfl, kc, ho0⟩
      have E0 := Lib.hid e0
      have E1 := Lib.hid e1
      have f0 := kc.cell e0 (by simp)
      have HA := Lib.hid (HS.out.keep kc)
      have hsz := kc.size
      clear e0 e1
      go_wp2_with fail
      go_loopw [6, 27] (fun v i wr => (i = .int .i64 0 ∧ v = v0 ∧ wr = w1) ∨ (i = .int .i64 1 ∧ Chg [] w wr ∧ wr.ownsRow w.heap.size 79 2 v m (spCells l)) ∨ (i = .int .i64 2 ∧ Chg [] w wr ∧ wr.ownsRow w.heap.size 79 2 v (m + m2) (spCells (l ++ l2)))) (fun _ i _ => 2 - (intOf i).toNat)
      case atStart => exact Or.inl ⟨rfl, rfl, rfl⟩
      case round =>
        rcases hrel with ⟨rfl, rfl, rfl⟩ | ⟨rfl, k1, o1⟩ | ⟨rfl, k1, o1⟩
        · go_wp2_with (at_builtin; refine wpList_append_spq rfl (.tmp 31) (.tmp 32) rfl w.heap.size _ 0 [] l rfl ho0 pa m c rfl HL.out HA.out (by omega) hsz ?_; intro v1 w2 h1)
          go_roundw
          case rel => exact Or.inr (Or.inl ⟨rfl, Chg.of_below (kc.below0.trans h1.2.1), by simpa using h1.1⟩)
          case measure => decide
        · have f1 := k1.cell E1.out (by simp)
          have HB := Lib.hid (HS2.out.keep k1)
          have hsz1 := k1.size
          clear f0
          go_wp2_with (at_builtin; refine wpList_append_spq rfl (.tmp 31) (.tmp 32) rfl w.heap.size _ m l l2 rfl o1 pb m2 c2 rfl HL2.out HB.out (by omega) hsz1 ?_; intro v1 w2 h1)
          go_roundw
          case rel => exact Or.inr (Or.inr ⟨rfl, Chg.of_below (k1.below0.trans h1.2.1), h1.1⟩)
          case measure => decide
        · go_wp2_with fail
          go_ret
          exact ⟨_, rfl, k1, o1⟩
end Go.Proofs.YtelakcjbknbehaaGreat
namespace Go.Proofs.YtelakcjbknbehaaGreat
open Go.RowKit Go.Lib

/-- put's loop in plain words: what is left, first, end, done, out. -/
def rputA : List (Int × Int) → Int → Int → Bool → List (Int × Int) → List (Int × Int)
  | [], f, e, d, out => if d then out else out ++ [(f, e - f)]
  | x :: l, f, e, d, out =>
    if x.1 + x.2 < f then rputA l f e d (out ++ [x])
    else if e < x.1 then rputA l f e true ((if d then out else out ++ [(f, e - f)]) ++ [x])
    else rputA l (min f x.1) (max e (x.1 + x.2)) d out
def rput (l : List (Int × Int)) (x : Int × Int) : List (Int × Int) := rputA l x.1 (x.1 + x.2) false []
/-- extents lie somewhere within 0 to 2^33. -/
def InE (l : List (Int × Int)) : Prop := ∀ p ∈ l, 0 ≤ p.1 ∧ 0 ≤ p.2 ∧ p.1 + p.2 ≤ 8589934592
theorem rputA_len : ∀ (l : List (Int × Int)) (f e : Int) (d : Bool) (out : List (Int × Int)), (rputA l f e d out).length ≤ l.length + out.length + (if d then 0 else 1)
  | [], f, e, d, out => by
    unfold rputA
    cases d <;> simp
  | x :: l, f, e, d, out => by
    unfold rputA
    split
    · have := rputA_len l f e d (out ++ [x])
      simp only [List.length_append, List.length_cons, List.length_nil] at this ⊢
      omega
    · split
      · have := rputA_len l f e true ((if d then out else out ++ [(f, e - f)]) ++ [x])
        cases d
        · simp only [List.length_append, List.length_cons, List.length_nil, if_true, Bool.false_eq_true, if_false] at this ⊢
          omega
        · simp only [List.length_append, List.length_cons, List.length_nil, if_true] at this ⊢
          omega
      · have := rputA_len l (min f x.1) (max e (x.1 + x.2)) d out
        simp only [List.length_cons]
        omega
theorem rputA_in : ∀ (l : List (Int × Int)) (f e : Int) (d : Bool) (out : List (Int × Int)), InE l → InE out → 0 ≤ f → f ≤ e → e ≤ 8589934592 → InE (rputA l f e d out)
  | [], f, e, d, out, _, ho, h0, h1, h2 => by
    unfold rputA
    cases d
    · intro p hp
      rcases List.mem_append.1 hp with hp | hp
      · exact ho p hp
      · rw [List.mem_singleton] at hp
        rw [hp]
        exact ⟨h0, by show 0 ≤ e - f; omega, by show f + (e - f) ≤ _; omega⟩
    · exact ho
  | x :: l, f, e, d, out, hl, ho, h0, h1, h2 => by
    have hx := hl x List.mem_cons_self
    have hl' : InE l := fun p hp => hl p (List.mem_cons_of_mem _ hp)
    have hoa : ∀ o, InE o → InE (o ++ [x]) := fun o h p hp => by
      rcases List.mem_append.1 hp with hp | hp
      · exact h p hp
      · rw [List.mem_singleton] at hp
        rw [hp]
        exact hx
    unfold rputA
    split
    · exact rputA_in l f e d _ hl' (hoa _ ho) h0 h1 h2
    · split
      · refine rputA_in l f e true _ hl' (hoa _ ?_) h0 h1 h2
        cases d
        · intro p hp
          rcases List.mem_append.1 hp with hp | hp
          · exact ho p hp
          · rw [List.mem_singleton] at hp
            rw [hp]
            exact ⟨h0, by show 0 ≤ e - f; omega, by show f + (e - f) ≤ _; omega⟩
        · exact ho
      · exact rputA_in l _ _ d out hl' ho (by omega) (by omega) (by omega)
theorem rput_len (l : List (Int × Int)) (x : Int × Int) : (rput l x).length ≤ l.length + 1 := by
  have := rputA_len l x.1 (x.1 + x.2) false []
  simpa [rput] using this
theorem rput_in {l : List (Int × Int)} {x : Int × Int} (hl : InE l) (hx : InE [x]) : InE (rput l x) := by
  have h := hx x (by simp)
  exact rputA_in l _ _ false [] hl (fun p hp => by cases hp) h.1 (by omega) h.2.2
/-- a row of extents that is only read. -/
def ExR (w : World) (v : Value) (l : List (Int × Int)) : Prop := ∃ pa c, v = .slice pa l.length c ∧ l.length ≤ c ∧ SpQ w pa l
theorem ExR.keep {w w' : World} {v : Value} {l : List (Int × Int)} (h : ExR w v l) (hc : Chg [] w w') : ExR w' v l := by
  obtain ⟨pa, c, e, h1, h2⟩ := h
  exact ⟨pa, c, e, h1, h2.keep hc⟩
theorem ex_at {w : World} {g o : Nat} {l : List (Int × Int)} (h : Sp w g o l) (i : Nat) (hi : i < l.length) : w.cell? ⟨g, o + i * 2, none⟩ = some (.int .i64 l[i].1) ∧ w.cell? ⟨g, o + i * 2 + 1, none⟩ = some (.int .i64 l[i].2) := by
  have key : ∀ (l : List (Int × Int)) (i : Nat) (hi : i < l.length), (spCells l)[i * 2]? = some (.int .i64 l[i].1) ∧ (spCells l)[i * 2 + 1]? = some (.int .i64 l[i].2) := by
    intro l
    induction l with
    | nil => intro i hi; cases hi
    | cons p l ih =>
      intro i hi
      cases i with
      | zero => exact ⟨rfl, rfl⟩
      | succ i =>
        have := ih i (by simpa using hi)
        rw [show (i + 1) * 2 = i * 2 + 2 by omega, show i * 2 + 2 + 1 = i * 2 + 1 + 2 by omega]
        exact this
  have h1 := key l i hi
  exact ⟨h _ _ h1.1, by have := h _ _ h1.2; rwa [← Nat.add_assoc] at this⟩
theorem own_kp {w w' : World} {S : List Nat} {base e size n : Nat} {v : Value} {xs : List Value} (h : w.ownsRow base e size v n xs) (hc : Chg S w w') (hS : ∀ g, v.ownBlock = some g → g ∉ S) : w'.ownsRow base e size v n xs := by
  refine ⟨h.1, ?_⟩
  rcases h.2 with ⟨e, h0⟩ | ⟨g, cap, cur, e, hA, hg, h3⟩
  · exact Or.inl ⟨e, h0⟩
  · exact Or.inr ⟨g, cap, cur, e, hA, hc.heap hg (hS g (by rw [e]; rfl)), h3⟩
theorem own_low {w : World} {b b' e size n : Nat} {v : Value} {xs : List Value} (h : w.ownsRow b e size v n xs) (hb : b' ≤ b) : w.ownsRow b' e size v n xs := by
  refine ⟨h.1, ?_⟩
  rcases h.2 with ⟨e, h0⟩ | ⟨g, cap, cur, e, hA, h3⟩
  · exact Or.inl ⟨e, h0⟩
  · exact Or.inr ⟨g, cap, cur, e, Nat.le_trans hb hA, h3⟩
/-- an append to a row that stands behind w0 changes nothing of old. -/
theorem app_new {w0 w w' : World} {b e size n : Nat} {v v' : Value} {xs ys : List Value} {m : Nat} (k : Chg [] w0 w) (ho : w.ownsRow b e size v n xs) (hb : w0.heap.size ≤ b) (h : AppendedV b e size w v m ys v' w') : Chg [] w0 w' := by
  have kb : Chg v.ownBlock.toList w w' := Chg.own h.2.2 (fun g hg _ => by simp [hg])
  refine k.trans kb (fun z hz hlt => ?_)
  have := (own_elem ho (show v.ownBlock = some z by simpa using hz)).1
  omega
theorem spCells_app (a b : List (Int × Int)) : spCells (a ++ b) = spCells a ++ spCells b := by simp [spCells]
end Go.Proofs.YtelakcjbknbehaaGreat
namespace Go.Proofs.YtelakcjbknbehaaGreat
open Go.RowKit Go.Lib

set_option maxRecDepth 100000 in
set_option maxHeartbeats 8000000 in
theorem rput_any (w : World) {v : Value} {l : List (Int × Int)} {a b : Int} (h : ExR w v l) (hl : l.length ≤ 100000) (hb : InE l) (hx : InE [(a, b)]) :
    Calls Tryz.prog 214 #[v, .agg #[.int .i64 a, .int .i64 b]] w fun e w' => ∃ v', e = .returned v' ∧ Chg [] w w' ∧ w'.ownsRow w.heap.size 79 2 v' (rput l (a, b)).length (spCells (rput l (a, b))) := by
  have hx1 := hx (a, b) (by simp)
  have ha0 : 0 ≤ a := hx1.1
  have hb0 : 0 ≤ b := hx1.2.1
  have hab : a + b ≤ 8589934592 := hx1.2.2
  have g0 := heap_new w (.cells #[.int .i64 a, .int .i64 b] 79)
  have k0 : Chg [] w (w.alloc (.cells #[.int .i64 a, .int .i64 b] 79)) := Chg.alloc w _
  have c0 : (w.alloc (.cells #[.int .i64 a, .int .i64 b] 79)).cell? ⟨w.heap.size, 0, none⟩ = some (.int .i64 a) := cell_is g0 0 rfl
  have c1 : (w.alloc (.cells #[.int .i64 a, .int .i64 b] 79)).cell? ⟨w.heap.size, 1, none⟩ = some (.int .i64 b) := cell_is g0 1 rfl
  have HE := Lib.hid (And.intro (h.keep k0) (And.intro k0 (And.intro hb hl)))
  obtain ⟨pa, c, rfl, hlc, -⟩ := h
  obtain ⟨n, hn⟩ : ∃ n, n = l.length := ⟨_, rfl⟩
  rw [← hn] at hlc hl ⊢
  have HN := Lib.hid hn
  clear hb hx hx1 k0 hn g0
  go_enter Tryz.func214, Tryz.ntmps214
  go_wp2_with fail
  have hs0 : w.heap.size ≤ (w.alloc (.cells #[.int .i64 a, .int .i64 b] 79)).heap.size := by simp
  obtain ⟨zb, hzb⟩ : ∃ zb, zb = (w.alloc (.cells #[.int .i64 a, .int .i64 b] 79)).heap.size := ⟨_, rfl⟩
  generalize w.alloc (.cells #[.int .i64 a, .int .i64 b] 79) = w1 at *
  generalize hz : w.heap.size = z at *
  go_loopw [5, 6, 7, 8, 9, 10] (fun fv ev ov dv iv _ wr => ∃ (i : Nat) (f e : Int) (d : Bool) (out : List (Int × Int)), fv = .int .i64 f ∧ ev = .int .i64 e ∧ dv = .bool d ∧ iv = .int .i64 i ∧ i ≤ n ∧ wr.ownsRow zb 79 2 ov out.length (spCells out) ∧ rputA (l.drop i) f e d out = rput l (a, b) ∧ (0 ≤ f ∧ f ≤ e ∧ e ≤ 8589934592) ∧ out.length ≤ 2 * i ∧ Chg [] w1 wr) (fun _ _ _ _ iv _ _ => n - (intOf iv).toNat)
  case atStart => exact ⟨0, a, a + b, false, [], rfl, by go_num, rfl, rfl, Nat.zero_le _, World.ownsRow_nil _ _ _ _, by simp [rput], ⟨ha0, by omega, hab⟩, Nat.zero_le _, Chg.refl _ _⟩
  case round =>
    obtain ⟨i, f, e, d, out, rfl, rfl, rfl, rfl, hi, ho, hr, ⟨hf0, hfe, he⟩, hol, kr⟩ := hrel
    by_cases hlt : i < n
    · have hlti : (i : Int) < n := by omega
      have hil : i < l.length := by rw [← HN.out]; exact hlt
      obtain ⟨g, o, rfl, hsp⟩ : ∃ g o, pa = some ⟨g, o, none⟩ ∧ Sp w1 g o l := by
        obtain ⟨pa', c', e', -, h2⟩ := HE.out.1
        cases e'
        rcases h2 with ⟨h2, -⟩ | ⟨g, o, h2, h3⟩
        · rw [h2] at hil; cases hil
        · exact ⟨g, o, h2, h3⟩
      obtain ⟨d0, d1⟩ := ex_at (hsp.keep kr) i hil
      have hbx := HE.out.2.2.1 _ (List.getElem_mem hil)
      have hdr : l.drop i = l[i] :: l.drop (i + 1) := List.drop_eq_getElem_cons hil
      rw [hdr] at hr
      unfold rputA at hr
      obtain ⟨x, y, hxy⟩ : ∃ x y, l[i] = (x, y) := ⟨_, _, rfl⟩
      rw [hxy] at d0 d1 hbx hr
      have hx0 : 0 ≤ x := hbx.1
      have hy0 : 0 ≤ y := hbx.2.1
      have hxy1 : x + y ≤ 8589934592 := hbx.2.2
      simp only at d0 d1 hr
      have hio : i ≤ 100000 := by omega
      obtain ⟨pv, cv, rfl, hcv⟩ := own_form ho
      have HH := Lib.hid (And.intro ho (And.intro hr (And.intro kr hol)))
      have y0 := heap_new wr (.cells #[.int .i64 x, .int .i64 y] 79)
      have e0 : (wr.alloc (.cells #[.int .i64 x, .int .i64 y] 79)).cell? ⟨wr.heap.size, 0, none⟩ = some (.int .i64 x) := cell_is y0 0 rfl
      have e1 : (wr.alloc (.cells #[.int .i64 x, .int .i64 y] 79)).cell? ⟨wr.heap.size, 1, none⟩ = some (.int .i64 y) := cell_is y0 1 rfl
      clear ho hr kr hsp hbx hdr hxy hcv y0 hol
      obtain ⟨m, hm⟩ : ∃ m, m = out.length := ⟨_, rfl⟩
      rw [← hm] at HH ⊢
      have k2 : Chg [] wr (wr.alloc (.cells #[.int .i64 x, .int .i64 y] 79)) := Chg.alloc wr _
      have HO : Hid ((wr.alloc (.cells #[.int .i64 x, .int .i64 y] 79)).ownsRow zb 79 2 (.slice pv m cv) m (spCells out)) := Lib.hid (own_kp HH.out.1 k2 (fun g hg hm => by cases hm))
      have hz2 : zb ≤ (wr.alloc (.cells #[.int .i64 x, .int .i64 y] 79)).heap.size := by
        have h1 := HH.out.2.2.1.size
        have h2 := k2.size
        omega
      have HK2 := Lib.hid (HH.out.2.2.1.then k2)
      have hm2 : m ≤ 2 * i := by have := HH.out.2.2.2; omega
      have HM := Lib.hid hm
      have HZ : Hid (wr.heap.size ∉ (Value.slice pv m cv).ownBlock.toList) := Lib.hid (fun hmem => by
        obtain ⟨-, cs, hh⟩ := own_elem HH.out.1 (g := wr.heap.size) (by simpa using hmem)
        exact absurd (heap_lt hh) (Nat.lt_irrefl _))
      clear k2 hm
      go_upto_region 11 with fail
      generalize wr.alloc (.cells #[.int .i64 x, .int .i64 y] 79) = w2 at *
      generalize wr.heap.size = z2 at *
      by_cases hA : x + y < f
      · have HR := Lib.hid ((if_pos hA).symm.trans HH.out.2.1)
        go_wp2_with (at_builtin; refine wpList_append_lit rfl (.tmp 47) (.tmp 49) 175 79 rfl ty217 inf117 rfl (by decide) zb w2 [.int .i64 x, .int .i64 y] 1 rfl (.slice pv m cv) m (spCells out) rfl HO.out (by omega) (by decide) hz2 (k := 0) rfl (by simp [Value.oneCell']) rfl 1 rfl ?_; intro v' w3 hap)
        have HAp := Lib.hid (And.intro hap (app_new HK2.out HO.out (Nat.le_of_eq hzb.symm) hap))
        clear hap
        go_wp2_with fail
        go_roundw
        case rel => exact ⟨i + 1, f, e, d, out ++ [(x, y)], rfl, rfl, rfl, by go_num, hlt, by rw [List.length_append, ← HM.out, spCells_app]; exact HAp.out.1.1, HR.out, ⟨hf0, hfe, he⟩, by rw [List.length_append, ← HM.out]; simp; omega, HAp.out.2⟩
        case measure => simp [intOf]; omega
      · have dA : decide (x + y < f) = false := decide_eq_false hA
        by_cases hB : e < x
        · have dB : decide (e < x) = true := decide_eq_true hB
          have HR := Lib.hid ((if_pos hB).symm.trans ((if_neg hA).symm.trans HH.out.2.1))
          cases d
          · go_wp2_with (at_builtin; first
              | (refine wpList_append_lit rfl (.tmp 58) (.tmp 64) 175 79 rfl ty217 inf117 rfl (by decide) zb w2 [.int .i64 f, .int .i64 (e - f)] 1 rfl (.slice pv m cv) m (spCells out) rfl HO.out (by omega) (by decide) hz2 (k := 0) rfl (by simp [Value.oneCell']) rfl 1 rfl ?_; intro v' w3 hap3; have kb : Chg (Value.slice pv m cv).ownBlock.toList w2 w3 := Chg.own hap3.2.2 (fun g hg _ => by simp [hg]); have q0 := kb.cell e0 HZ.out; have q1 := kb.cell e1 HZ.out; have k3 := app_new HK2.out HO.out (Nat.le_of_eq hzb.symm) hap3; have hz3 : zb ≤ w3.heap.size := (by rw [hzb]; exact k3.size); have HO3 := Lib.hid hap3.1; have HK3 := Lib.hid k3; clear hap3 k3 kb)
              | (refine wpList_append_lit rfl (.tmp 66) (.tmp 68) 175 79 rfl ty217 inf117 rfl (by decide) zb w3 [.int .i64 x, .int .i64 y] 1 rfl v' (m + 1) _ rfl HO3.out (by omega) (by decide) hz3 (k := 0) rfl (by simp [Value.oneCell']) rfl 1 rfl ?_; intro v4 w4 hap))
            have HAp := Lib.hid (And.intro hap (app_new HK3.out HO3.out (Nat.le_of_eq hzb.symm) hap))
            clear hap
            go_wp2_with fail
            go_roundw
            case rel => exact ⟨i + 1, f, e, true, out ++ [(f, e - f)] ++ [(x, y)], rfl, rfl, rfl, by go_num, hlt, by rw [List.length_append, List.length_append, ← HM.out, spCells_app, spCells_app]; exact HAp.out.1.1, HR.out, ⟨hf0, hfe, he⟩, by rw [List.length_append, List.length_append, ← HM.out]; simp; omega, HAp.out.2⟩
            case measure => simp [intOf]; omega
          · go_wp2_with (at_builtin; refine wpList_append_lit rfl (.tmp 66) (.tmp 68) 175 79 rfl ty217 inf117 rfl (by decide) zb w2 [.int .i64 x, .int .i64 y] 1 rfl (.slice pv m cv) m (spCells out) rfl HO.out (by omega) (by decide) hz2 (k := 0) rfl (by simp [Value.oneCell']) rfl 1 rfl ?_; intro v' w3 hap)
            have HAp := Lib.hid (And.intro hap (app_new HK2.out HO.out (Nat.le_of_eq hzb.symm) hap))
            clear hap
            go_wp2_with fail
            go_roundw
            case rel => exact ⟨i + 1, f, e, true, out ++ [(x, y)], rfl, rfl, rfl, by go_num, hlt, by rw [List.length_append, ← HM.out, spCells_app]; exact HAp.out.1.1, HR.out, ⟨hf0, hfe, he⟩, by rw [List.length_append, ← HM.out]; simp; omega, HAp.out.2⟩
            case measure => simp [intOf]; omega
        · have dB : decide (e < x) = false := decide_eq_false hB
          have HR := Lib.hid ((if_neg hB).symm.trans ((if_neg hA).symm.trans HH.out.2.1))
          go_wp2_with fail
          go_roundw
          case rel => exact ⟨i + 1, min f x, max e (x + y), d, out, rfl, rfl, rfl, by go_num, hlt, by rw [← HM.out]; exact HO.out, HR.out, ⟨by omega, by omega, by omega⟩, by rw [← HM.out]; omega, HK2.out⟩
          case measure => simp [intOf]; omega
    · obtain rfl : i = n := by omega
      have hdr : l.drop i = [] := by rw [HN.out]; exact List.drop_length
      rw [hdr] at hr
      unfold rputA at hr
      obtain ⟨m, hm⟩ : ∃ m, m = out.length := ⟨_, rfl⟩
      rw [← hm] at ho hol
      obtain ⟨pv, cv, rfl, hcv⟩ := own_form ho
      have hz3 : zb ≤ wr.heap.size := by have := kr.size; omega
      have hm2 : m ≤ 200000 := by omega
      have HH := Lib.hid (And.intro ho (And.intro kr hm))
      clear ho kr hcv hm hdr
      cases d
      · have HR := Lib.hid hr
        clear hr
        go_wp2_with (at_builtin; refine wpList_append_lit rfl (.tmp 72) (.tmp 78) 175 79 rfl ty217 inf117 rfl (by decide) zb wr [.int .i64 f, .int .i64 (e - f)] 1 rfl (.slice pv m cv) m _ rfl HH.out.1 (by omega) (by decide) hz3 (k := 0) rfl (by simp [Value.oneCell']) rfl 1 rfl ?_; intro v' w3 hap)
        have HAp := Lib.hid (And.intro hap (app_new HH.out.2.1 HH.out.1 (Nat.le_of_eq hzb.symm) hap))
        clear hap
        go_wp2_with fail
        go_ret
        refine ⟨_, rfl, HE.out.2.1.then HAp.out.2, own_low (b := zb) ?_ (by omega)⟩
        rw [← HR.out]
        simp only [Bool.false_eq_true, if_false]
        rw [List.length_append, ← HH.out.2.2, spCells_app]
        exact HAp.out.1.1
      · have HR := Lib.hid hr
        clear hr
        go_wp2_with fail
        go_ret
        refine ⟨_, rfl, HE.out.2.1.then HH.out.2.1, own_low (b := zb) ?_ (by omega)⟩
        rw [← HR.out]
        simp only [if_true]
        rw [← HH.out.2.2]
        exact HH.out.1
end Go.Proofs.YtelakcjbknbehaaGreat
namespace Go.Proofs.YtelakcjbknbehaaGreat
open Go.Shelf Go.RowKit Go.Lib Go.Sort

/-- a span's two cells. -/
def encSp (x : Int × Int) : List Value := [.int .i64 x.1, .int .i64 x.2]
set_option maxRecDepth 100000 in
set_option maxHeartbeats 1000000 in
theorem closure247 (x y : Int × Int) (W : World) : Calls Tryz.prog 282 #[.agg #[.int .i64 x.1, .int .i64 x.2], .agg #[.int .i64 y.1, .int .i64 y.2]] W fun e w' => e = .returned (.int .i64 (Lib.compareInt x.1 y.1)) ∧ ∃ q os', w' = grow (W.drewN q) os' := by
  have hcon := fun W' => AnyG.cmp_Compare_int Tryz.cmpInt x.1 y.1 W'
  change ∀ W', Calls Tryz.prog 283 _ _ _ at hcon
  generalize Lib.compareInt x.1 y.1 = r at hcon ⊢
  go_enter Tryz.func282, Tryz.ntmps282
  go_wp2_with (go_at_call 283; refine (hcon _).mono ?_; rintro e w' ⟨rfl, rfl⟩)
  go_ret
  exact ⟨rfl, 0, _, by rw [alloc_eq_grow, alloc_eq_grow, grow_grow]; rfl⟩
theorem cmpLays247 (blk off size : Nat) (w : World) : CmpLays Tryz.prog 282 #[] encSp 2 (fun x y => Lib.compareInt x.1 y.1) blk off size w :=
  fun _ _ _ _ x y => closure247 x y _
theorem isAgg117 (w : World) : (isAgg 79).run Tryz.prog w = .ok true w := by kernel_rfl
theorem sizeOf117 (w : World) : (Go.sizeOf 79).run Tryz.prog w = .ok 2 w := by kernel_rfl
theorem spCells_get (l : List (Int × Int)) (j : Nat) (h : j < l.length * 2) : (spCells l)[j]? = some ((encSp l.toArray[j / 2]!)[j % 2]!) := by
  induction l generalizing j with
  | nil => simp at h
  | cons p l ih =>
    have e : spCells (p :: l) = .int .i64 p.1 :: .int .i64 p.2 :: spCells l := rfl
    rw [e]
    match j with
    | 0 => simp [encSp]
    | 1 => simp [encSp]
    | j + 2 =>
      have := ih j (by simp only [List.length_cons] at h; omega)
      rw [List.getElem?_cons_succ, List.getElem?_cons_succ, this]
      have e1 : (j + 2) / 2 = j / 2 + 1 := by omega
      have e2 : (j + 2) % 2 = j % 2 := by omega
      rw [e1, e2]
      simp
theorem chg_mapBlock (w : World) (g : Nat) (f : Array Value → Array Value) : Chg [g] w (mapBlock w g f) :=
  ⟨rfl, rfl, rfl, by simp [mapBlock], fun k _ hs => by
    have : g ≠ k := by intro e; exact hs (by rw [e]; simp)
    simp [mapBlock, Array.getElem?_modify, this]⟩
theorem chg_grow {S : List Nat} (w : World) (os : Array Obj) : Chg S w (grow w os) :=
  ⟨rfl, rfl, rfl, by simp, fun k hk _ => heap_grow_old w os hk⟩
theorem chg_ahead {S : List Nat} (w : World) (n : Nat) : Chg S w (Sort.ahead w n) := ⟨rfl, rfl, rfl, Nat.le_refl _, fun _ _ _ => rfl⟩
theorem ltSp (x y : Int × Int) : (ltOf fun x y : Int × Int => Lib.compareInt x.1 y.1) x y = decide (x.1 < y.1) := by
  unfold ltOf Lib.compareInt
  by_cases h1 : x.1 < y.1
  · simp [h1]
  · by_cases h2 : y.1 < x.1 <;> simp [h1, h2]
theorem swoSp : SWO (ltOf fun x y : Int × Int => Lib.compareInt x.1 y.1) where
  irrefl x := by rw [ltSp]; simp
  trans x y z h1 h2 := by rw [ltSp] at *; simp at *; omega
  ntrans x y z h1 h2 := by rw [ltSp] at *; simp at *; omega
set_option maxRecDepth 100000 in
theorem sort_sp (w : World) {g n cap : Nat} {cur : Array Value} {l : List (Int × Int)} (hb : w.heap[g]? = some (.cells cur 79 (0, 0))) (hs : Sp w g 0 l) (hl : l.length = n) (hn : n ≤ 1000) :
    Calls Tryz.prog 281 #[.slice (some ⟨g, 0, none⟩) n cap, .func (.func 282) #[] #[]] w fun e w' => e = .returned (.tuple #[]) ∧ Chg [g] w w' ∧ ∃ l', l'.length = n ∧ Sp w' g 0 l' := by
  have eg : ∀ args w, (callFunc 282 args).run Tryz.prog w = .ok (.enter 282 args) w := enters_of Tryz.func282 (by kernel_rfl) rfl
  have hH : HoldsK encSp 2 w g 0 l.toArray := by
    intro j hj
    rw [size_flatK] at hj
    rw [get_flatK encSp 2 l.toArray j hj]
    exact ⟨hs j _ (spCells_get l j (by simpa using hj)), unfrozen hb _⟩
  have hcon := AnyQ.slices_SortFunc Tryz.sortSp 2 isAgg117 sizeOf117 encSp (fun _ => rfl) (fun x v hv => by simp [encSp] at hv; rcases hv with rfl | rfl <;> rfl) (fun x y => Lib.compareInt x.1 y.1) swoSp 282 #[] g 0 cap l.toArray w eg (cmpLays247 g 0 l.toArray.size w) hH (heap_lt hb) (by simp [hl]; omega)
  change Calls Tryz.prog 281 _ _ _ at hcon
  have hz : l.toArray.size = n := by simpa using hl
  rw [hz] at hcon
  refine hcon.mono ?_
  rintro e w' ⟨rfl, d', m, os, hP, -, rfl⟩
  have hsz : d'.size = l.toArray.size := hP.1
  have hH2 := holdsK_sortWorldK_c encSp 2 w g 0 l.toArray _ m os hH (heap_lt hb) hsz
  refine ⟨rfl, ?_, d'.toList, by simpa [hl] using hsz, ?_⟩
  · exact ((chg_ahead w m).then (chg_mapBlock _ g _)).then (chg_grow _ os)
  · intro j u hu
    have hj : j < d'.size * 2 := by
      rcases Nat.lt_or_ge j (d'.size * 2) with h | h
      · exact h
      · rw [List.getElem?_eq_none (by rw [spCells_len]; simpa using h)] at hu; cases hu
    rw [spCells_get _ j (by simpa using hj)] at hu
    have h2 := (hH2 j (by rw [size_flatK]; exact hj)).1
    rw [get_flatK encSp 2 _ j hj] at h2
    rw [h2]
    simpa using hu
end Go.Proofs.YtelakcjbknbehaaGreat
namespace Go.Proofs.YtelakcjbknbehaaGreat
open Go.RowKit Go.Lib

theorem add_lit (b o j : Nat) : (⟨b, o, none⟩ : Addr).add j = ⟨b, o + j, none⟩ := by unfold Addr.add; split <;> simp_all
theorem own_sp {w : World} {base n : Nat} {v : Value} {xs : List (Int × Int)} (h : w.ownsRow base 79 2 v n (spCells xs)) (hn : 0 < n) :
    ∃ g cap cur, v = .slice (some ⟨g, 0, none⟩) n cap ∧ base ≤ g ∧ w.heap[g]? = some (.cells cur 79 (0, 0)) ∧ Sp w g 0 xs ∧ n ≤ cap ∧ xs.length = n := by
  have hl := h.1
  rw [spCells_len] at hl
  rcases h.2 with ⟨rfl, h0⟩ | ⟨g, cap, cur, hv, hb, hg, hc, hm, hs, ht⟩
  · omega
  · subst hv
    exact ⟨g, cap, cur, rfl, hb, hg, fun j u hu => by have := h.cells (g := g) rfl j u hu; rw [add_lit] at this; exact this, hc, by omega⟩
theorem sp_at {w : World} {b o : Nat} {l : List (Int × Int)} (h : Sp w b o l) (i : Nat) (hi : i < l.length) : w.cell? ⟨b, o + i * 2, none⟩ = some (.int .i64 l[i].1) ∧ w.cell? ⟨b, o + (i * 2 + 1), none⟩ = some (.int .i64 l[i].2) := by
  have e1 : (i * 2) / 2 = i := by omega
  have e2 : (i * 2) % 2 = 0 := by omega
  have e3 : (i * 2 + 1) / 2 = i := by omega
  have e4 : (i * 2 + 1) % 2 = 1 := by omega
  have h1 := h (i * 2) _ (spCells_get l (i * 2) (by omega))
  have h2 := h (i * 2 + 1) _ (spCells_get l (i * 2 + 1) (by omega))
  rw [e1, e2] at h1
  rw [e3, e4] at h2
  simp [hi, encSp] at h1 h2
  exact ⟨h1, h2⟩
theorem spCells_set (xs : List (Int × Int)) (j : Nat) (h : j < xs.length) (z : Int) : (spCells xs).set (j * 2 + 1) (.int .i64 z) = spCells (xs.set j (xs[j].1, z)) := by
  induction xs generalizing j with
  | nil => simp at h
  | cons p l ih =>
    cases j with
    | zero => rfl
    | succ j =>
      have h' : j < l.length := by simpa using h
      have := ih j h'
      have e : ∀ q : Int × Int, ∀ m, spCells (q :: m) = .int .i64 q.1 :: .int .i64 q.2 :: spCells m := fun _ _ => rfl
      rw [List.set_cons_succ, e, e, show (j + 1) * 2 + 1 = (j * 2 + 1) + 1 + 1 by omega, List.set_cons_succ, List.set_cons_succ, this]
      rfl
theorem own_set {w : World} {base n g cap : Nat} {xs : List (Int × Int)} (h : w.ownsRow base 79 2 (.slice (some ⟨g, 0, none⟩) n cap) n (spCells xs)) (j : Nat) (hj : j < xs.length) (z : Int) :
    (w.setCell ⟨g, j * 2 + 1, none⟩ (.int .i64 z)).ownsRow base 79 2 (.slice (some ⟨g, 0, none⟩) n cap) n (spCells (xs.set j (xs[j].1, z))) := by
  have hl := h.1
  rw [spCells_len] at hl
  rcases h.2 with ⟨e, h0⟩ | ⟨g', cap', cur, hv, hb, hg, hc, hm, hs, ht⟩
  · cases e
  · cases hv
    refine ⟨by rw [spCells_len, List.length_set]; exact hl, Or.inr ⟨g, cap, cur.setIfInBounds (j * 2 + 1) (.int .i64 z), rfl, hb, heap_set hg _ _ rfl, hc, hm, by simpa using hs, ?_⟩⟩
    rw [← spCells_set xs j hj z, ← ht, Array.toList_setIfInBounds, List.take_set]
theorem ownsRow_chg {w w' : World} {S : List Nat} {base n e size : Nat} {v : Value} {xs : List Value} (h : w.ownsRow base e size v n xs) (hc : Chg S w w') (hS : ∀ x ∈ S, x < base := by simp) : w'.ownsRow base e size v n xs := by
  refine ⟨h.1, ?_⟩
  rcases h.2 with hn | ⟨g, cap, cur, hv, hb, hg, rest⟩
  · exact Or.inl hn
  · exact Or.inr ⟨g, cap, cur, hv, hb, hc.heap hg (fun hm => by have := hS g hm; omega), rest⟩
theorem ownsRow_base {w : World} {b base n e size : Nat} {v : Value} {xs : List Value} (h : w.ownsRow base e size v n xs) (hb : b ≤ base) : w.ownsRow b e size v n xs := by
  refine ⟨h.1, ?_⟩
  rcases h.2 with hn | ⟨g, cap, cur, hv, h1, hg, rest⟩
  · exact Or.inl hn
  · exact Or.inr ⟨g, cap, cur, hv, Nat.le_trans hb h1, hg, rest⟩
theorem sp_new (w : World) (a b : Int) : Sp (w.alloc (.cells #[.int .i64 a, .int .i64 b] 79)) w.heap.size 0 [(a, b)] := by
  have h := heap_new w (.cells #[.int .i64 a, .int .i64 b] 79)
  intro j u hu
  rw [Nat.zero_add]
  match j with
  | 0 => cases hu; exact cell_is h 0 rfl
  | 1 => cases hu; exact cell_is h 1 rfl
  | j + 2 => simp [spCells] at hu
set_option maxRecDepth 100000 in
set_option maxHeartbeats 2000000 in
theorem joined_any (w : World) {g0 o0 n cp : Nat} {l : List (Int × Int)} (hl : l.length = n) (h0 : 0 < n) (h1 : n ≤ 64) (hs : Sp w g0 o0 l) : Calls Tryz.prog 246 #[.slice (some ⟨g0, o0, none⟩) n cp] w fun e w' =>
    ∃ v k l', e = .returned v ∧ Chg [] w w' ∧ k ≤ n ∧ l'.length = k ∧ w'.ownsRow w.heap.size 79 2 v k (spCells l') := by
  go_enter Tryz.func246, Tryz.ntmps246
  go_wp2_with fail
  go_step3
  go_wp2_with fail
  refine (clone_sp w hl h0 (by omega) hs).mono ?_
  rintro e w1 ⟨v, rfl, k1, o1⟩
  obtain ⟨g, cap, cur, rfl, hg0, hb1, hs1, hcap, -⟩ := own_sp o1 h0
  clear o1
  go_wp2_with fail
  refine (sort_sp w1 (cap := cap) hb1 hs1 hl (by omega)).mono ?_
  rintro e w2 ⟨rfl, k2, l2, hl2, hs2⟩
  have k3 : Chg [] w w2 := k1.trans k2 (fun x hx hlt => by simp at hx; omega)
  have hw := k3.size
  have HL2 := Lib.hid hl2
  clear hb1 hs1 hl hs k1 k2 hl2
  go_wp2_with fail
  go_step3
  go_wp2_with fail
  go_loopw [2, 12] (fun v i wr => ∃ iq k xs, i = .int .i64 ((iq : Nat) : Int) ∧ iq ≤ n ∧ k ≤ iq ∧ Chg [] w2 wr ∧ ((v = .slice none 0 0 ∧ k = 0 ∧ xs = []) ∨ (0 < k ∧ wr.ownsRow w2.heap.size 79 2 v k (spCells xs)))) (fun _ i _ => n - (intOf i).toNat)
  case atStart => exact ⟨0, 0, [], rfl, Nat.zero_le _, Nat.le_refl _, Chg.refl _ _, Or.inl ⟨rfl, rfl, rfl⟩⟩
  case round =>
    obtain ⟨iq, k, xs, rfl, hi, hk, kr, hv⟩ := hrel
    rcases Nat.lt_or_ge iq n with hlt | hge
    · have hS := hs2.keep kr
      obtain ⟨c0, c1⟩ := sp_at hS iq (by have := HL2.out; omega)
      generalize (l2[iq]'(by have := HL2.out; omega)).1 = a at *
      generalize (l2[iq]'(by have := HL2.out; omega)).2 = b at *
      simp only [Nat.zero_add] at c0 c1
      have hlt' : (iq : Int) < n := by omega
      rcases hv with ⟨rfl, rfl, rfl⟩ | ⟨hk0, ho⟩
      · go_wp2_with fail
        have kz : Chg [] wr (wr.alloc (.cells #[.int .i64 a, .int .i64 b] 79)) := Chg.alloc wr _
        have z0 := heap_new wr (.cells #[.int .i64 a, .int .i64 b] 79)
        generalize hw5 : wr.alloc (.cells #[.int .i64 a, .int .i64 b] 79) = w5 at *
        generalize wr.heap.size = z at *
        have d0 : w5.cell? ⟨z, 0, none⟩ = some (.int .i64 a) := cell_is z0 0 rfl
        have d1 : w5.cell? ⟨z, 1, none⟩ = some (.int .i64 b) := cell_is z0 1 rfl
        go_quiet (fail)
        have kw : Chg [] w2 ((w5.drewN nq).alloc (.cells #[.int .i64 a, .int .i64 b] 79)) := ((kr.then kz).drewN nq).then_alloc _
        have hsz := kw.size
        have hnw := Lib.hid (sp_new (w5.drewN nq) a b)
        go_wp2_with (at_builtin; refine wpList_append_sp rfl (.tmp 58) (.tmp 60) rfl w2.heap.size _ 0 [] [(a, b)] rfl (World.ownsRow_nil _ _ _ _) (w5.drewN nq).heap.size 0 1 1 rfl rfl hnw.out (by omega) hsz ?_; intro v1 w6 h6)
        go_roundw
        case rel => exact ⟨iq + 1, 1, _, by go_num, hlt, by omega, Chg.of_below (kw.below0.trans h6.2.1), Or.inr ⟨by omega, h6.1⟩⟩
        case measure => simp [intOf]; omega
      · obtain ⟨hb, cap', cur', rfl, hhb, hhc, hhs, hcc, hxl⟩ := own_sp ho hk0
        obtain ⟨k', rfl⟩ : ∃ k', k = k' + 1 := ⟨k - 1, by omega⟩
        obtain ⟨p0, q0⟩ := sp_at hhs k' (by omega)
        simp only [Nat.zero_add] at p0 q0
        obtain ⟨p, hp⟩ : ∃ p, p = (xs[k']'(by omega)).1 := ⟨_, rfl⟩
        obtain ⟨q, hq⟩ : ∃ q, q = (xs[k']'(by omega)).2 := ⟨_, rfl⟩
        rw [← hp] at p0
        rw [← hq] at q0
        clear hp hq
        go_wp2_with fail
        have kz : Chg [] wr (wr.alloc (.cells #[.int .i64 a, .int .i64 b] 79)) := Chg.alloc wr _
        have z0 := heap_new wr (.cells #[.int .i64 a, .int .i64 b] 79)
        generalize hw5 : wr.alloc (.cells #[.int .i64 a, .int .i64 b] 79) = w5 at *
        generalize wr.heap.size = z at *
        have d0 : w5.cell? ⟨z, 0, none⟩ = some (.int .i64 a) := cell_is z0 0 rfl
        have d1 : w5.cell? ⟨z, 1, none⟩ = some (.int .i64 b) := cell_is z0 1 rfl
        have p1 := kz.cell p0 (by simp)
        have q1 := kz.cell q0 (by simp)
        go_quiet (fail)
        by_cases hle : a ≤ wrap64 (p + q)
        · go_wp2_with fail
          have p2 : (w5.drewN nq).cell? ⟨hb, k' * 2, none⟩ = some (.int .i64 p) := p1
          have q2 : (w5.drewN nq).cell? ⟨hb, k' * 2 + 1, none⟩ = some (.int .i64 q) := q1
          have f2 : (w5.drewN nq).frozen? ⟨hb, k' * 2 + 1, none⟩ = false := unfrozen (kz.heap hhc (by simp)) _
          have d2 : (w5.drewN nq).cell? ⟨z, 0, none⟩ = some (.int .i64 a) := d0
          have d3 : (w5.drewN nq).cell? ⟨z, 1, none⟩ = some (.int .i64 b) := d1
          have hkk : (k' : Int) < k' + 1 := by omega
          have k6 : Chg [] w2 (w5.drewN nq) := (kr.then kz).drewN nq
          have hd6 : (w5.drewN nq).drew.ownsRow w2.heap.size 79 2 (.slice (some ⟨hb, 0, none⟩) (k' + 1) cap') (k' + 1) (spCells xs) := ownsRow_chg ho ((kz.drewN nq).drew)
          clear d0 d1 p1 q1
          generalize w5.drewN nq = w6 at *
          go_still_tail 21, (by kernel_rfl)
          change wpList _ _ _ _ _ w6.drew
          have HS := Lib.hid (fun z => own_set hd6 k' (by omega) z)
          have k7 : Chg [] w2 w6.drew := k6.drew
          have q7 : w6.drew.cell? ⟨hb, k' * 2 + 1, none⟩ = some (.int .i64 q) := q2
          have f7 : w6.drew.frozen? ⟨hb, k' * 2 + 1, none⟩ = false := f2
          generalize w6.drew = w7 at *
          go_wp2_with fail
          go_roundw
          case rel => exact ⟨iq + 1, k' + 1, _, by go_num, hlt, by omega, k7.new_set hhb _ _, Or.inr ⟨by omega, HS.out _⟩⟩
          case measure => simp [intOf]; omega
        · have kw : Chg [] w2 ((w5.drewN nq).alloc (.cells #[.int .i64 a, .int .i64 b] 79)) := ((kr.then kz).drewN nq).then_alloc _
          have ow : ((w5.drewN nq).alloc (.cells #[.int .i64 a, .int .i64 b] 79)).ownsRow w2.heap.size 79 2 (.slice (some ⟨hb, 0, none⟩) (k' + 1) cap') (k' + 1) (spCells xs) := ownsRow_chg ho ((kz.drewN nq).then_alloc _)
          have hsz := kw.size
          have hnw := Lib.hid (sp_new (w5.drewN nq) a b)
          go_wp2_with (at_builtin; refine wpList_append_sp rfl (.tmp 58) (.tmp 60) rfl w2.heap.size _ (k' + 1) xs [(a, b)] rfl ow (w5.drewN nq).heap.size 0 1 1 rfl rfl hnw.out (by omega) hsz ?_; intro v1 w6 h6)
          go_roundw
          case rel => exact ⟨iq + 1, k' + 2, _, by go_num, hlt, by omega, Chg.of_below (kw.below0.trans h6.2.1), Or.inr ⟨by omega, h6.1⟩⟩
          case measure => simp [intOf]; omega
    · obtain rfl : iq = n := by omega
      have hnl : ¬ ((iq : Int) < iq) := by omega
      rcases hv with ⟨rfl, rfl, rfl⟩ | ⟨hk0, ho⟩
      · go_wp2_with fail
        go_ret
        exact ⟨_, 0, [], rfl, k3.then kr, Nat.zero_le _, rfl, World.ownsRow_nil _ _ _ _⟩
      · go_wp2_with fail
        go_ret
        exact ⟨_, k, xs, rfl, k3.then kr, hk, by have := ho.1; rw [spCells_len] at this; omega, ownsRow_base ho hw⟩
end Go.Proofs.YtelakcjbknbehaaGreat
namespace Go.Proofs.YtelakcjbknbehaaGreat
open Go.RowKit Go.Lib

/-- a set of at most n spans, whatever they are; its row lies behind base. -/
def SpV (w : World) (base V n : Nat) : Prop := ∃ v l, SpansAt w V v ∧ l.length ≤ n ∧ w.ownsRow base 79 2 v l.length (spCells l)
/-- the blocks of S bear none of these types. -/
def Av (w : World) (S ts : List Nat) : Prop := ∀ x ∈ S, ∀ cs t fr, w.heap[x]? = some (.cells cs t fr) → t ∉ ts
theorem Av.ne {w : World} {S ts : List Nat} (h : Av w S ts) {g : Nat} {cs : Array Value} {t : TypeId} {fr : Nat × Nat} (hg : w.heap[g]? = some (.cells cs t fr)) (ht : t ∈ ts) : g ∉ S := fun hm => h g hm cs t fr hg ht
theorem Av.nil (w : World) (ts : List Nat) : Av w [] ts := fun x hx => by cases hx
theorem SpV.keep {w w' : World} {S : List Nat} {base V n : Nat} (h : SpV w base V n) (hc : Chg S w w') (hS : Av w S [79, 305]) : SpV w' base V n := by
  obtain ⟨v, l, h1, h2, h3⟩ := h
  refine ⟨v, l, hc.heap h1 (hS.ne h1 (by simp)), h2, h3.1, ?_⟩
  rcases h3.2 with hn | ⟨g, cap, cur, hv, hb, hg, rest⟩
  · exact Or.inl hn
  · exact Or.inr ⟨g, cap, cur, hv, hb, hc.heap hg (hS.ne hg (by simp)), rest⟩
theorem SpV.keep0 {w w' : World} {base V n : Nat} (h : SpV w base V n) (hc : Chg [] w w') : SpV w' base V n := h.keep hc (Av.nil _ _)
theorem own_spq {w : World} {base : Nat} {v : Value} {l : List (Int × Int)} (h : w.ownsRow base 79 2 v l.length (spCells l)) : ∃ pa c, v = .slice pa l.length c ∧ SpQ w pa l := by
  cases l with
  | nil =>
    rcases h.2 with ⟨rfl, h0⟩ | ⟨g, cap, cur, rfl, _⟩
    · exact ⟨none, 0, rfl, Or.inl ⟨rfl, rfl⟩⟩
    · exact ⟨_, cap, rfl, Or.inr ⟨g, 0, rfl, fun j u hu => by simp [spCells] at hu⟩⟩
  | cons p l =>
    obtain ⟨g, cap, cur, hv, _, _, hs, _, _⟩ := own_sp h (by simp)
    exact ⟨_, cap, hv, Or.inr ⟨g, 0, rfl, hs⟩⟩
set_option maxRecDepth 100000 in
set_option maxHeartbeats 2000000 in
theorem iadd_one (w : World) {base V n E cp : Nat} {b : Int} (h : SpV w base V n) (hn : n ≤ 60) (hbase : base ≤ w.heap.size) (h0 : 0 ≤ b) (h1 : b < 258) (e0 : w.cell? ⟨E, 0, none⟩ = some (.int .i64 b)) (e1 : w.cell? ⟨E, 1, none⟩ = some (.int .i64 1)) :
    Calls Tryz.prog 216 #[.pointer (some ⟨V, 0, none⟩), .slice (some ⟨E, 0, none⟩) 1 cp] w fun e w' => e = .returned (.int .i64 0) ∧ Chg [V] w w' ∧ SpV w' base V (n + 1) := by
  obtain ⟨v, l, hV, hl, ho⟩ := h
  obtain ⟨pa, c, rfl, hq⟩ := own_spq ho
  have hE : SpQ w (some ⟨E, 0, none⟩) [(b, 1)] := Or.inr ⟨E, 0, rfl, fun j u hu => by
    rw [Nat.zero_add]
    match j with
    | 0 => cases hu; exact e0
    | 1 => cases hu; exact e1
    | j + 2 => simp [spCells] at hu⟩
  have v1 : w.cell? ⟨V, 1, none⟩ = some (.slice pa l.length c) := cell_is hV 1 rfl
  go_enter Tryz.func216, Tryz.ntmps216
  go_wp2_with fail
  refine (iall_one w (cp := cp) h0 h1 e0 e1).mono ?_
  rintro e w1 ⟨rfl, k1⟩
  have v2 := k1.cell v1 (by simp)
  have hq2 := hq.keep k1
  have hE2 := hE.keep k1
  have hV2 := k1.heap hV (by simp)
  have ho2 := ownsRow_chg ho k1
  clear e0 e1 v1 hV hq hE ho
  go_wp2_with fail
  have kx : Chg [] w1 (w1.alloc (.cells #[.slice pa l.length c, .slice (some ⟨E, 0, none⟩) 1 cp] 175)) := Chg.alloc _ _
  have x0 : (w1.alloc (.cells #[.slice pa l.length c, .slice (some ⟨E, 0, none⟩) 1 cp] 175)).cell? ⟨w1.heap.size, 0, none⟩ = some (.slice pa l.length c) := cell_is (heap_new w1 _) 0 rfl
  have x1 : (w1.alloc (.cells #[.slice pa l.length c, .slice (some ⟨E, 0, none⟩) 1 cp] 175)).cell? ⟨w1.heap.size, 1, none⟩ = some (.slice (some ⟨E, 0, none⟩) 1 cp) := cell_is (heap_new w1 _) 1 rfl
  refine (concat_two _ x0 x1 rfl rfl (by omega) (by omega) (by omega) (hq2.keep kx) (hE2.keep kx)).mono ?_
  rintro e w2 ⟨v', rfl, k2, o2⟩
  obtain ⟨g, cap, cur, rfl, hgb, hgc, hgs, _, hgl⟩ := own_sp o2 (by simp)
  have k3 := (k1.then kx).then k2
  go_wp2_with fail
  refine (joined_any w2 hgl (by omega) (by omega) hgs).mono ?_
  rintro e w3 ⟨v3, k, l3, rfl, k4, hk, hl3, o3⟩
  have k5 := k3.then k4
  have hV3 : SpansAt w3 V (.slice pa l.length c) := ((kx.then k2).then k4).heap hV2 (by simp)
  have c0 : w3.cell? ⟨V, 0, none⟩ = some (.int .i64 64) := cell_is hV3 0 rfl
  have c1 : w3.cell? ⟨V, 1, none⟩ = some (.slice pa l.length c) := cell_is hV3 1 rfl
  have f1 := unfrozen hV3 1
  obtain ⟨pq, cq, hv3, hcq⟩ := own_form o3
  subst hv3
  have hsz := k3.size
  have HF := Lib.hid (show SpV (w3.setCell ⟨V, 1, none⟩ (.slice pq k cq)) base V (n + 1) from by
    refine ⟨_, l3, heap_set hV3 1 _ rfl, by omega, ?_⟩
    have kk := Chg.set w3 V 1 (.slice pq k cq)
    refine ownsRow_base (base := w2.heap.size) ?_ (by omega)
    rw [hl3]
    refine ownsRow_chg o3 kk ?_
    intro x hx
    have := heap_lt hV2
    have := (kx.then k2).size
    simp at hx
    omega)
  clear k3 k4 o3 hV3 hV2 x0 x1 hgs hgc o2 hq2 hE2
  have hcmp : ¬ ((k : Int) > 64) := by omega
  go_wp2_with fail
  go_ret
  exact ⟨rfl, (k5.mono (T := [V]) (fun x hx _ => by cases hx)).then (Chg.set w3 V 1 _), HF.out⟩
end Go.Proofs.YtelakcjbknbehaaGreat
namespace Go.Proofs.YtelakcjbknbehaaGreat
open Go.RowKit Go.Lib

def MayE (a b : Int) : Prop := 0 ≤ a ∧ a ≤ 1048576 ∧ 1 ≤ b ∧ b ≤ 1048576 ∧ a ≤ 1048577 - b
instance (a b : Int) : Decidable (MayE a b) := by unfold MayE; infer_instance
set_option maxRecDepth 100000 in
set_option maxHeartbeats 2000000 in
theorem rmay_ext (w : World) {a b : Int} : Calls Tryz.prog 213 #[.agg #[.int .i64 a, .int .i64 b]] w fun e w' => e = .returned (.bool (decide (MayE a b))) ∧ Chg [] w w' := by
  have g0 := heap_new w (.cells #[.int .i64 a, .int .i64 b] 79)
  have k0 : Chg [] w (w.alloc (.cells #[.int .i64 a, .int .i64 b] 79)) := Chg.alloc w _
  have c0 : (w.alloc (.cells #[.int .i64 a, .int .i64 b] 79)).cell? ⟨w.heap.size, 0, none⟩ = some (.int .i64 a) := cell_is g0 0 rfl
  have c1 : (w.alloc (.cells #[.int .i64 a, .int .i64 b] 79)).cell? ⟨w.heap.size, 1, none⟩ = some (.int .i64 b) := cell_is g0 1 rfl
  have HK := Lib.hid k0
  clear k0 g0
  by_cases h1 : 0 ≤ a
  · have d1 : decide (0 ≤ a) = true := decide_eq_true h1
    by_cases h2 : a ≤ 1048576
    · have d2 : decide (a ≤ 1048576) = true := decide_eq_true h2
      by_cases h3 : 1 ≤ b
      · have d3 : decide (1 ≤ b) = true := decide_eq_true h3
        by_cases h4 : b ≤ 1048576
        · have d4 : decide (b ≤ 1048576) = true := decide_eq_true h4
          by_cases h5 : a ≤ 1048577 - b
          · have d5 : decide (a ≤ 1048577 - b) = true := decide_eq_true h5
            go_enter Tryz.func213, Tryz.ntmps213
            go_wp2_with fail
            go_ret
            exact ⟨by rw [decide_eq_true (show MayE a b from ⟨h1, h2, h3, h4, h5⟩)]; rfl, HK.out⟩
          · have d5 : decide (a ≤ 1048577 - b) = false := decide_eq_false h5
            go_enter Tryz.func213, Tryz.ntmps213
            go_wp2_with fail
            go_ret
            exact ⟨by rw [decide_eq_false (show ¬ MayE a b from fun h => by unfold MayE at h; omega)]; rfl, HK.out⟩
        · have d4 : decide (b ≤ 1048576) = false := decide_eq_false h4
          go_enter Tryz.func213, Tryz.ntmps213
          go_wp2_with fail
          go_ret
          exact ⟨by rw [decide_eq_false (show ¬ MayE a b from fun h => by unfold MayE at h; omega)]; rfl, HK.out⟩
      · have d3 : decide (1 ≤ b) = false := decide_eq_false h3
        go_enter Tryz.func213, Tryz.ntmps213
        go_wp2_with fail
        go_ret
        exact ⟨by rw [decide_eq_false (show ¬ MayE a b from fun h => by unfold MayE at h; omega)]; rfl, HK.out⟩
    · have d2 : decide (a ≤ 1048576) = false := decide_eq_false h2
      go_enter Tryz.func213, Tryz.ntmps213
      go_wp2_with fail
      go_ret
      exact ⟨by rw [decide_eq_false (show ¬ MayE a b from fun h => by unfold MayE at h; omega)]; rfl, HK.out⟩
  · have d1 : decide (0 ≤ a) = false := decide_eq_false h1
    go_enter Tryz.func213, Tryz.ntmps213
    go_wp2_with fail
    go_ret
    exact ⟨by rw [decide_eq_false (show ¬ MayE a b from fun h => by unfold MayE at h; omega)]; rfl, HK.out⟩
theorem own_e0 (w : World) (base z : Nat) (hb : base ≤ z) (hz : w.heap[z]? = some (.cells #[] 79 (0, 0))) : w.ownsRow base 79 2 (.slice (some ⟨z, 0, none⟩) 0 0) 0 (spCells []) :=
  ⟨rfl, Or.inr ⟨z, 0, #[], rfl, hb, hz, Nat.le_refl _, by unfold maxLen; omega, rfl, rfl⟩⟩
theorem ExR.own {w : World} {base n : Nat} {v : Value} {l : List (Int × Int)} (h : w.ownsRow base 79 2 v n (spCells l)) (hn : n = l.length) : ExR w v l := by
  subst hn
  obtain ⟨pa, c, rfl, hc⟩ := own_form h
  obtain ⟨pa', c', e, hq⟩ := own_spq h
  cases e
  exact ⟨pa, c, rfl, hc, hq⟩
set_option maxRecDepth 100000 in
set_option maxHeartbeats 4000000 in
theorem radd_one (w : World) {B o g c : Nat} {cs : Array Value} {t : TypeId} {v : Value} {most a b : Int} {l : List (Int × Int)} (hB : w.heap[B]? = some (.cells cs t (0, 0))) (h0 : cs[o]? = some (.int .i64 most)) (h1 : cs[o + 1]? = some v) (h : ExR w v l) (hl : l.length ≤ 1000) (hb : InE l) (hm : MayE a b)
    (hs : Sp w g 0 [(a, b)]) (hlen : ((rput l (a, b)).length : Int) ≤ most) :
    Calls Tryz.prog 167 #[.pointer (some ⟨B, o, none⟩), .slice (some ⟨g, 0, none⟩) 1 c] w fun e w' => e = .returned (.int .i64 0) ∧ ∃ v', w'.heap[B]? = some (.cells (cs.setIfInBounds (o + 1) v') t (0, 0)) ∧ Chg [B] w w' ∧ w'.ownsRow w.heap.size 79 2 v' (rput l (a, b)).length (spCells (rput l (a, b))) := by
  have e0 : w.cell? ⟨g, 0, none⟩ = some (.int .i64 a) := hs 0 _ rfl
  have e1 : w.cell? ⟨g, 1, none⟩ = some (.int .i64 b) := hs 1 _ rfl
  have hxb : InE [(a, b)] := fun p hp => by
    rw [List.mem_singleton] at hp
    rw [hp]
    unfold MayE at hm
    exact ⟨by show 0 ≤ a; omega, by show 0 ≤ b; omega, by show a + b ≤ _; omega⟩
  obtain ⟨pa, cp, rfl, hcp, hq⟩ := h
  obtain ⟨m, hm0⟩ : ∃ m, m = l.length := ⟨_, rfl⟩
  obtain ⟨n, hn0⟩ : ∃ n, n = (rput l (a, b)).length := ⟨_, rfl⟩
  rw [← hm0] at hcp h1 hl
  rw [← hn0] at hlen
  have hn1 : n ≤ m + 1 := by
    have := rput_len l (a, b)
    omega
  have hmost : ¬ most < n := by omega
  have hmost0 : 0 ≤ most := by omega
  have hng : decide (most < (n : Int)) = false := decide_eq_false hmost
  have hmx : max most 0 = most := by omega
  have HH := Lib.hid (And.intro hq (And.intro hb (And.intro hm (And.intro hxb (And.intro hB (And.intro h0 (And.intro h1 (And.intro hn0 hm0))))))))
  clear hq hb hm hxb hs hm0 hB h0 h1 hn0
  go_enter Tryz.func167, Tryz.ntmps167
  go_wp2_with fail
  go_loopw [5] (fun iv wr => (iv = .int .i64 0 ∨ iv = .int .i64 1) ∧ Chg [] w wr) (fun iv _ => 1 - (intOf iv).toNat)
  case atStart => exact ⟨Or.inl rfl, Chg.refl _ _⟩
  case round =>
    obtain ⟨rfl | rfl, kr⟩ := hrel
    · have e0r := kr.cell e0 (by simp)
      have e1r := kr.cell e1 (by simp)
      have HK := Lib.hid kr
      clear kr
      go_wp2_with fail
      refine (rmay_ext wr).mono ?_
      rintro e w2 ⟨rfl, k2⟩
      rw [decide_eq_true HH.out.2.2.1]
      have HK2 := Lib.hid (HK.out.then k2)
      clear k2
      go_wp2_with fail
      go_roundw
      case rel => exact ⟨Or.inr rfl, HK2.out⟩
      case measure => simp [intOf]
    · have k2 : Chg [] w (wr.alloc (.cells #[] 79)) := kr.then_alloc _
      have c1r : (wr.alloc (.cells #[] 79)).cell? ⟨B, o + 1, none⟩ = some (.slice pa m cp) := cell_is (k2.heap HH.out.2.2.2.2.1 (by simp)) (o + 1) HH.out.2.2.2.2.2.2.1
      have ho0 := own_e0 (wr.alloc (.cells #[] 79)) wr.heap.size wr.heap.size (Nat.le_refl _) (heap_new wr _)
      have hq0 : SpQ (wr.alloc (.cells #[] 79)) pa l := HH.out.1.keep k2
      have hz0 : wr.heap.size ≤ (wr.alloc (.cells #[] 79)).heap.size := by simp
      have hzw : w.heap.size ≤ wr.heap.size := kr.size
      have HQ := Lib.hid (And.intro ho0 (And.intro hq0 k2))
      have HE := Lib.hid (And.intro e0 e1)
      clear kr e0 e1 ho0 hq0 k2
      go_wp2_with (at_builtin; refine wpList_append_spq rfl (.tmp 20) (.tmp 24) rfl wr.heap.size (.slice (some ⟨wr.heap.size, 0, none⟩) 0 0) 0 [] l rfl HQ.out.1 pa m cp rfl HH.out.2.2.2.2.2.2.2.2.symm HQ.out.2.1 (by omega) hz0 ?_; intro v1 w2 hap)
      have k2 : Chg [] w w2 := app_new HQ.out.2.2 HQ.out.1 hzw hap
      have ho2 : w2.ownsRow wr.heap.size 79 2 v1 (0 + m) (spCells ([] ++ l)) := hap.1
      rw [Nat.zero_add, List.nil_append] at ho2
      have HO2 := Lib.hid (And.intro ho2 k2)
      clear hap ho2 k2 c1r HQ hz0
      go_wp2_with fail
      go_loopw [6, 7] (fun v iv wx => (iv = .int .i64 0 ∧ v = v1 ∧ wx = w2) ∨ (iv = .int .i64 1 ∧ ∃ pv cv, v = .slice pv n cv ∧ Chg [] w wx ∧ wx.ownsRow w.heap.size 79 2 v n (spCells (rput l (a, b))))) (fun _ iv _ => 1 - (intOf iv).toNat)
      case atStart => exact Or.inl ⟨rfl, rfl, rfl⟩
      case round =>
        rcases hrel with ⟨rfl, rfl, rfl⟩ | ⟨rfl, pv, cv, rfl, kx, hox⟩
        · have e0 := HO2.out.2.cell HE.out.1 (by simp)
          have e1 := HO2.out.2.cell HE.out.2 (by simp)
          have HP := Lib.hid (rput_any _ (ExR.own HO2.out.1 HH.out.2.2.2.2.2.2.2.2) (by have := HH.out.2.2.2.2.2.2.2.2; omega) HH.out.2.1 HH.out.2.2.2.1)
          go_wp2_with fail
          refine HP.out.mono ?_
          rintro e w3 ⟨v3, rfl, k3, ho3⟩
          have HO3 := Lib.hid (And.intro (HO2.out.2.then k3) (own_low ho3 HO2.out.2.size))
          clear k3 ho3 HP e0 e1
          go_wp2_with fail
          go_roundw
          case rel =>
            obtain ⟨k3, ho3⟩ := HO3.out
            rw [← HH.out.2.2.2.2.2.2.2.1] at ho3
            obtain ⟨pv, cv, e, -⟩ := own_form ho3
            exact Or.inr ⟨rfl, pv, cv, e, k3, ho3⟩
          case measure => simp [intOf]
        · have hB := kx.heap HH.out.2.2.2.2.1 (by simp)
          have d0 : wr.cell? ⟨B, o, none⟩ = some (.int .i64 most) := cell_is hB o HH.out.2.2.2.2.2.1
          have d1 : wr.cell? ⟨B, o + 1, none⟩ = some (.slice pa m cp) := cell_is hB (o + 1) HH.out.2.2.2.2.2.2.1
          have f1 := unfrozen hB (o + 1)
          have HX := Lib.hid (And.intro kx (And.intro hox hB))
          clear kx hox hB
          go_wp2_with fail
          go_ret
          obtain ⟨kx, hox, hB⟩ := HX.out
          have kB : Chg [B] wr (wr.setCell ⟨B, o + 1, none⟩ (.slice pv n cv)) := Chg.set wr B (o + 1) _
          refine ⟨rfl, _, heap_set hB (o + 1) _ rfl, (kx.mono (fun x hx _ => by cases hx)).then kB, ?_⟩
          rw [← HH.out.2.2.2.2.2.2.2.1]
          refine own_kp hox kB (fun g hg hm => ?_)
          have := (own_elem hox hg).1
          have := heap_lt HH.out.2.2.2.2.1
          rw [List.mem_singleton] at hm
          omega
end Go.Proofs.YtelakcjbknbehaaGreat
namespace Go.Proofs.YtelakcjbknbehaaGreat
open Go.RowKit Go.Lib

theorem ty68 : Tryz.prog.underlying 178 = some (.slice 255) := by kernel_rfl
theorem inf285 : (Tryz.prog.info? 255).map (fun i => (i.zero, i.size, i.bytes)) = some (some (.agg #[.int .i64 0, .slice none 0 0, .bool false]), 3, 40) := by kernel_rfl
/-- a block's bytes in a buffer, or noughts. -/
def Blk (w : World) (L : List (Int × Value)) (b : Int) (l : List UInt8) : Prop := (getL L b = none ∧ l = zeroB) ∨ ∃ g c, getL L b = some (.slice (some ⟨g, 0, none⟩) 40 c) ∧ Bs w (some ⟨g, 0, none⟩) l ∧ l.length = 40 ∧ Bt w g
/-- a view, with at most n reads in a row behind base. -/
def Vw (w : World) (base Q X W V n : Nat) : Prop := ∃ s m xs, ViewAt w Q X W V s ∧ m ≤ n ∧ w.ownsRow base 255 3 s m xs
theorem Vw.keep {w w' : World} {S : List Nat} {base Q X W V n : Nat} (h : Vw w base Q X W V n) (hc : Chg S w w') (hS : Av w S [274, 255]) : Vw w' base Q X W V n := by
  obtain ⟨s, m, xs, h1, h2, h3⟩ := h
  refine ⟨s, m, xs, hc.heap h1 (hS.ne h1 (by simp)), h2, h3.1, ?_⟩
  rcases h3.2 with hn | ⟨g, cap, cur, hv, hb, hg, rest⟩
  · exact Or.inl hn
  · exact Or.inr ⟨g, cap, cur, hv, hb, hc.heap hg (hS.ne hg (by simp)), rest⟩
theorem Blk.len {w : World} {L : List (Int × Value)} {b : Int} {l : List UInt8} (h : Blk w L b l) : l.length = 40 := by
  rcases h with ⟨_, rfl⟩ | ⟨g, c, _, _, h, _⟩
  · rfl
  · exact h
/-- the blocks of T are those of a transaction's reads: a view, a set of spans, a row of reads. -/
def Rt (w : World) (base : Nat) (T : List Nat) : Prop := ∀ x ∈ T, base ≤ x ∧ ∃ cs t fr, w.heap[x]? = some (.cells cs t fr) ∧ (t = 274 ∨ t = 305 ∨ t = 255)
theorem Rt.cells {w : World} {base : Nat} {T : List Nat} (h : Rt w base T) {g : Nat} {cs : Array Value} {t : TypeId} {fr : Nat × Nat} (hg : w.heap[g]? = some (.cells cs t fr)) (ht : t ≠ 274 ∧ t ≠ 305 ∧ t ≠ 255) : g ∉ T := by
  intro hm
  obtain ⟨_, cs', t', fr', h1, h2⟩ := h g hm
  rw [hg] at h1
  cases h1
  rcases h2 with h | h | h
  · exact ht.1 h
  · exact ht.2.1 h
  · exact ht.2.2 h
theorem Rt.map {w : World} {base : Nat} {T : List Nat} (h : Rt w base T) {r : Nat} {L : List (Int × Value)} (hg : MapAt w r L) : r ∉ T := by
  intro hm
  obtain ⟨_, cs', t', fr', h1, _⟩ := h r hm
  exact map_cells hg h1 rfl
theorem Rt.low {w : World} {base : Nat} {T : List Nat} (h : Rt w base T) {g : Nat} (hg : g < base) : g ∉ T := fun hm => by have := (h g hm).1; omega
theorem Blk.keepT {w w' : World} {T : List Nat} {base : Nat} {L : List (Int × Value)} {b : Int} {l : List UInt8} (h : Blk w L b l) (hc : Chg T w w') (hT : Rt w base T) : Blk w' L b l := by
  rcases h with h | ⟨g, c, h1, h2, h3, cs, hcs⟩
  · exact Or.inl h
  · have hg := hT.cells hcs (by simp)
    exact Or.inr ⟨g, c, h1, h2.chgT hc hg, h3, cs, hc.heap hcs hg⟩
theorem Rt.nil (w : World) (base : Nat) : Rt w base [] := fun x hx => by cases hx
theorem Blk.keep {w w' : World} {L : List (Int × Value)} {b : Int} {l : List UInt8} (h : Blk w L b l) (hc : Chg [] w w') : Blk w' L b l := h.keepT hc (Rt.nil w 0)
theorem VerAt.keep0 {w w' : World} {X rx : Nat} (h : VerAt w X rx) (hc : Chg [] w w') : VerAt w' X rx := ⟨hc.heap h.1 (by simp), h.2.keep hc (by simp)⟩
theorem ownsRow_chgV {w w' : World} {V : Nat} {base n : Nat} {v : Value} {xs : List Value} {v2 : Value} (h : w.ownsRow base 255 3 v n xs) (hc : Chg [V] w w') (hV : SpansAt w V v2) : w'.ownsRow base 255 3 v n xs := by
  refine ⟨h.1, ?_⟩
  rcases h.2 with hn | ⟨g, cap, cur, hv, hb, hg, rest⟩
  · exact Or.inl hn
  · exact Or.inr ⟨g, cap, cur, hv, hb, hc.heap hg (by simpa using heap_ne hg hV (by simp)), rest⟩
theorem chg_setRow (w : World) (g : Nat) (cs : Array Value) : Chg [g] w (w.setRow g cs) := ⟨rfl, rfl, rfl, by simp [World.setRow], fun k _ hs => setRow_other w g k cs (fun e => hs (by simp [e]))⟩
theorem ownsRow_chg2 {w w' : World} {g : Nat} {base n : Nat} {v : Value} {xs : List Value} {cs : Array Value} (h : w.ownsRow base 255 3 v n xs) (hc : Chg [g] w w') (hV : w.heap[g]? = some (.cells cs 5 (0, 0))) : w'.ownsRow base 255 3 v n xs := by
  refine ⟨h.1, ?_⟩
  rcases h.2 with hn | ⟨k, cap, cur, hv, hb, hg, rest⟩
  · exact Or.inl hn
  · exact Or.inr ⟨k, cap, cur, hv, hb, hc.heap hg (by simpa using heap_ne hg hV (by simp)), rest⟩
theorem own_block_ne {w : World} {g : Nat} {base n e size : Nat} {v : Value} {xs : List Value} {cs : Array Value} {t : TypeId} {fr : Nat × Nat} (h : w.ownsRow base e size v n xs) (hg : w.heap[g]? = some (.cells cs t fr)) (ht : t ≠ e) : g ∉ v.ownBlock.toList := by
  rcases h.2 with ⟨rfl, _⟩ | ⟨k, cap, cur, rfl, hb, hk, rest⟩
  · simp [Value.ownBlock]
  · simpa [Value.ownBlock] using heap_ne hg hk (by intro e; cases e; exact ht rfl)
theorem ownsRow_av {w w' : World} {S : List Nat} {base n e size : Nat} {v : Value} {xs : List Value} (h : w.ownsRow base e size v n xs) (hc : Chg S w w') (hS : Av w S [e]) : w'.ownsRow base e size v n xs := by
  refine ⟨h.1, ?_⟩
  rcases h.2 with hn | ⟨g, cap, cur, hv, hb, hg, rest⟩
  · exact Or.inl hn
  · exact Or.inr ⟨g, cap, cur, hv, hb, hc.heap hg (hS.ne hg (by simp)), rest⟩
theorem Bs.cells_at {w : World} {g : Nat} {l : List UInt8} (h : Bs w (some ⟨g, 0, none⟩) l) : ∀ j v, (Lib.byteCells l)[j]? = some v → w.cell? ((⟨g, 0, none⟩ : Addr).add j) = some v := by
  intro j u hu
  rcases h with rfl | ⟨b, off, e, hb, hc⟩
  · simp [Lib.byteCells] at hu
  · cases e
    have hj : j < l.length := by
      rcases Nat.lt_or_ge j l.length with h | h
      · exact h
      · rw [List.getElem?_eq_none (by simpa [Lib.byteCells] using h)] at hu; cases hu
    rw [add_lit, hc j hj, ← hu]
    simp [Lib.byteCells, hj]
theorem byteCells_one (l : List UInt8) : ∀ v ∈ Lib.byteCells l, v.oneCell' = true := by
  intro u hu
  simp only [Lib.byteCells, List.mem_map] at hu
  obtain ⟨x, _, rfl⟩ := hu
  rfl
end Go.Proofs.YtelakcjbknbehaaGreat
namespace Go.Proofs.YtelakcjbknbehaaGreat
open Go.RowKit Go.Lib

/-- where the parts of a store with one transaction lie. -/
structure Ids where
  P : Nat
  N : Nat
  S : Nat
  M : Nat
  X : Nat
  rx : Nat
  B : Nat
  rb : Nat
  r : Nat
  A : Nat
  c : Nat
  Z : List Nat
  T : Nat
  W : Nat
  rw : Nat
  Q : Nat
  V : Nat
/-- the store's own parts; they lie below base. -/
structure Sta (w : World) (base : Nat) (d : Ids) : Prop where
  store : StoreAt w d.P d.N d.S (some ⟨d.M, 0, none⟩)
  dev : ∃ ops, DevAt w d.N d.A d.c ops d.Z
  mg : Mg w d.M d.X d.rx d.B d.rb d.r 1 [(1, .int .i64 0)] [(1, .pointer (some ⟨d.T, 0, none⟩))]
  low : d.P < base ∧ d.N < base ∧ d.A < base ∧ d.M < base ∧ d.X < base ∧ d.rx < base ∧ d.B < base ∧ d.rb < base ∧ d.r < base
  lowZ : ∀ z ∈ d.Z, z < base
theorem Sta.keep {w w' : World} {base : Nat} {d : Ids} {T : List Nat} (h : Sta w base d) (hc : Chg T w w') (hT : ∀ x ∈ T, base ≤ x) : Sta w' base d := by
  obtain ⟨l1, l2, l3, l4, l5, l6, l7, l8, l9⟩ := h.low
  have n : ∀ x, x < base → x ∉ T := fun x hx hm => by have := hT x hm; omega
  obtain ⟨ops, hd⟩ := h.dev
  have m := h.mg
  exact ⟨h.store.keep hc (n _ l1), ⟨ops, hd.keep hc (n _ l2) (n _ l3) (fun z hz => n _ (h.lowZ z hz))⟩,
    ⟨hc.heap m.mgr (n _ l4), ⟨hc.heap m.ver.1 (n _ l5), m.ver.2.keep hc (n _ l6)⟩, m.book.keep hc (n _ l7) (n _ l8), m.map.keep hc (n _ l9), m.n1, m.n2, m.n3⟩, h.low, h.lowZ⟩
/-- what of memory behind base may change while one transaction goes on. -/
def Ow (base : Nat) (w w' : World) : Prop := ∃ T, Chg T w w' ∧ ∀ x ∈ T, base ≤ x ∧ ∀ cs t fr, w.heap[x]? = some (.cells cs t fr) → t = 274 ∨ t = 305 ∨ t = 255
theorem Ow.refl (base : Nat) (w : World) : Ow base w w := ⟨[], Chg.refl _ _, fun x hx => by cases hx⟩
theorem Ow.of_chg {base : Nat} {w w' : World} (h : Chg [] w w') : Ow base w w' := ⟨[], h, fun x hx => by cases hx⟩
theorem Ow.trans {base : Nat} {a b c : World} (h : Ow base a b) (k : Ow base b c) : Ow base a c := by
  obtain ⟨T, h1, h2⟩ := h
  obtain ⟨U, k1, k2⟩ := k
  refine ⟨T ++ U, (h1.mono (fun x hx _ => List.mem_append_left _ hx)).then (k1.mono (fun x hx _ => List.mem_append_right _ hx)), fun x hx => ?_⟩
  by_cases hT : x ∈ T
  · exact h2 x hT
  · rcases List.mem_append.1 hx with hx | hx
    · exact absurd hx hT
    · exact ⟨(k2 x hx).1, fun cs t fr hh => (k2 x hx).2 cs t fr (h1.heap hh hT)⟩
theorem Ow.then {base : Nat} {a b c : World} (h : Ow base a b) (k : Chg [] b c) : Ow base a c := h.trans (Ow.of_chg k)
theorem Ow.heap {base : Nat} {w w' : World} (h : Ow base w w') {g : Nat} {cs : Array Value} {t : TypeId} {fr : Nat × Nat} (hg : w.heap[g]? = some (.cells cs t fr)) (ht : t ≠ 274 ∧ t ≠ 305 ∧ t ≠ 255) : w'.heap[g]? = some (.cells cs t fr) := by
  obtain ⟨T, h1, h2⟩ := h
  refine h1.heap hg (fun hm => ?_)
  rcases (h2 g hm).2 cs t fr hg with h | h | h
  · exact ht.1 h
  · exact ht.2.1 h
  · exact ht.2.2 h
theorem Ow.below {base : Nat} {w w' : World} (h : Ow base w w') {B : Nat} (hB : B ≤ w.heap.size) (hb : B ≤ base) : Below B w w' := by
  obtain ⟨T, h1, h2⟩ := h
  exact h1.below hB (fun x hx => Nat.le_trans hb (h2 x hx).1)
theorem Ow.size {base : Nat} {w w' : World} (h : Ow base w w') : w.heap.size ≤ w'.heap.size := by obtain ⟨T, h1, _⟩ := h; exact h1.size
theorem av_map {w : World} {r : Nat} {L : List (Int × Value)} (h : MapAt w r L) (ts : List Nat) : Av w [r] ts := fun x hx cs t fr hh => by rw [List.mem_singleton] at hx; subst hx; exact absurd rfl (map_cells h hh)
/-- a store with one transaction, whose blocks are q, behind n reads and k writes. -/
structure St (w : World) (base : Nat) (d : Ids) (q : Int → List UInt8) (n k : Nat) : Prop where
  sta : Sta w base d
  tx : TxAt w d.T d.W d.Q
  buf : ∃ L, BufAt w d.W d.rw L ∧ L.length ≤ k ∧ ∀ b, 0 ≤ b → b < 258 → Blk w L b (q b)
  vw : Vw w base d.Q d.X d.W d.V n
  sp : SpV w base d.V n
  high : base ≤ d.Q ∧ base ≤ d.V ∧ base ≤ d.rw
theorem St.keep {w w' : World} {base : Nat} {d : Ids} {q : Int → List UInt8} {n k : Nat} (h : St w base d q n k) (hc : Chg [] w w') : St w' base d q n k := by
  obtain ⟨L, h1, h2, h3⟩ := h.buf
  exact ⟨h.sta.keep hc (fun x hx => by cases hx), hc.heap h.tx (by simp), ⟨L, h1.keep hc (by simp) (by simp), h2, fun b hb hb' => (h3 b hb hb').keep hc⟩, h.vw.keep hc (Av.nil _ _), h.sp.keep0 hc, h.high⟩
/-- the blocks behind a write. -/
def putQ (q : Int → List UInt8) (b : Int) (l : List UInt8) (x : Int) : List UInt8 := if x = b then l else q x
end Go.Proofs.YtelakcjbknbehaaGreat
namespace Go.Proofs.YtelakcjbknbehaaGreat
open Go.RowKit Go.Lib

set_option maxRecDepth 100000 in
theorem rmay_min (w : World) : Calls Tryz.prog 165 #[.agg #[.int .i64 8, .int .i64 96]] w fun e w' => e = .returned (.bool true) ∧ Chg [] w w' := by
  go_enter Tryz.func165, Tryz.ntmps165
  go_wp2_with fail
  go_ret
  exact ⟨rfl, Chg.alloc _ _⟩
set_option maxRecDepth 100000 in
theorem rsplit_min (w : World) : Calls Tryz.prog 92 #[.agg #[.int .i64 8, .int .i64 96]] w fun e w' => e = .returned (.tuple #[.agg #[.int .i64 0, .int .i64 3, .int .i64 6, .int .i64 7], .int .i64 0]) ∧ Chg [] w w' := by
  go_enter Tryz.func92, Tryz.ntmps92
  go_wp2_with fail
  obtain ⟨g0, g1⟩ := two_new w (.cells #[.int .i64 8, .int .i64 96] 67) (.cells #[.int .i64 0, .int .i64 0, .int .i64 0, .int .i64 0] 156)
  have hc := chg_two w (.cells #[.int .i64 8, .int .i64 96] 67) (.cells #[.int .i64 0, .int .i64 0, .int .i64 0, .int .i64 0] 156)
  generalize (w.alloc (.cells #[.int .i64 8, .int .i64 96] 67)).alloc (.cells #[.int .i64 0, .int .i64 0, .int .i64 0, .int .i64 0] 156) = w1 at *
  refine (rmay_min w1).mono ?_
  rintro e w2 ⟨rfl, hc2⟩
  have k0 := hc2.heap g0 (by simp)
  have k1 := hc2.heap g1 (by simp)
  have hc3 := hc.then hc2
  have a0 : w2.cell? ⟨w.heap.size, 0, none⟩ = some (.int .i64 8) := cell_is k0 0 rfl
  have a1 : w2.cell? ⟨w.heap.size, 1, none⟩ = some (.int .i64 96) := cell_is k0 1 rfl
  clear g0 g1 k0 hc hc2
  have b0 := unfrozen k1 0
  have b1 := unfrozen k1 1
  have b2 := unfrozen k1 2
  have b3 := unfrozen k1 3
  have c0 := cell_is k1 0 rfl
  have c1 := cell_is k1 1 rfl
  have c2 := cell_is k1 2 rfl
  have c3 := cell_is k1 3 rfl
  go_wp2_with fail
  refine bodyPost_ret (v := .tuple #[.agg #[.int .i64 0, .int .i64 3, .int .i64 6, .int .i64 7], .int .i64 0]) (by simp [results, Tryz.results92, go_sem, c0, c1, c2, c3]) rfl ?_
  exact ⟨rfl, (((hc3.new_set (by omega) _ _).new_set (by omega) _ _).new_set (by omega) _ _).new_set (by omega) _ _⟩
set_option maxRecDepth 100000 in
theorem rcap_min (w : World) : Calls Tryz.prog 35 #[.agg #[.int .i64 8, .int .i64 96]] w fun e w' => e = .returned (.int .i64 258) ∧ Chg [] w w' := by
  go_enter Tryz.func35, Tryz.ntmps35
  go_wp2_with fail
  have g0 := heap_new w (.cells #[.int .i64 8, .int .i64 96] 67)
  have hc : Chg [] w (w.alloc (.cells #[.int .i64 8, .int .i64 96] 67)) := Chg.alloc _ _
  generalize w.alloc (.cells #[.int .i64 8, .int .i64 96] 67) = w1 at *
  refine (rsplit_min w1).mono ?_
  rintro e w2 ⟨rfl, hc2⟩
  have k0 := hc2.heap g0 (by simp)
  have hc3 := hc.then hc2
  have a1a : ∀ o, (w2.alloc o).cell? ⟨w.heap.size, 1, none⟩ = some (.int .i64 96) := fun o => cell_is (heap_old k0) 1 rfl
  clear g0 k0 hc hc2
  go_wp2_with fail
  go_ret
  exact ⟨rfl, hc3.then_alloc _⟩
end Go.Proofs.YtelakcjbknbehaaGreat
namespace Go.Proofs.YtelakcjbknbehaaGreat
open Go.RowKit Go.Lib

theorem step_append_run {P : Program} {ops : Array Oper} {o : Oper} {a : Act} {w : World} {K : Act → World → Prop} {Q : Exit → Act → World → Prop} {E : Prop} (hgd : o.guard = none) (s x : Operand) (t t' : TypeId)
    (ho : o.op = .call { callee := .builtin .append, args := #[s, x], argTypes := #[t, t'] }) (v y : Value) (hs : a.eval s = v) (hx : a.eval x = y) (v' : Value) (w' : World) (hr : (Builtin.append_ #[t, t'] o.type #[v, y]).run P w = .ok v' w') (h : K (a.put o.dst v') w') :
    if Region.wanted o (yielded ops a.tmps) = true then Oper.wp P o a w K Q else E := by
  have hw : Region.wanted o (yielded ops a.tmps) = true := by simp [Region.wanted, hgd]
  rw [if_pos hw]
  unfold Oper.wp execOp
  simp only [ho, resolve, invoke, builtin, Sem.run_bind, Sem.run_pure, Result.andThen_ok, List.map_toArray, List.map_cons, List.map_nil, hs, hx, hr]
  exact h
theorem ty62 : Tryz.prog.underlying 115 = some (.slice 3) := by kernel_rfl
theorem inf3 : (Tryz.prog.info? 3).map (fun i => (i.zero, i.size, i.bytes)) = some (some (.int .i64 0), 1, 8) := by kernel_rfl
theorem ty161 : Tryz.prog.underlying 118 = some (.slice 163) := by kernel_rfl
theorem inf206 : (Tryz.prog.info? 163).map (fun i => (i.zero, i.size, i.bytes)) = some (some (.pointer none), 1, 8) := by kernel_rfl
/-- nothing is put behind an empty row of ints. -/
theorem append_none (w : World) (z : Nat) (ty : TypeId) : (Builtin.append_ #[115, 115] ty #[.slice (some ⟨z, 0, none⟩) 0 0, .slice none 0 0]).run Tryz.prog w = .ok (.slice (some ⟨z, 0, none⟩) 0 0) w := by
  obtain ⟨i, hi0, hz, hz1, hz2⟩ := info_parts inf3
  simp [Builtin.append_, run_underlying ty62, sizeOf, typeInfo, hi0, Builtin.lenOf, Builtin.firstCells, storeCells]
theorem own0 (w : World) (z : Nat) (hz : w.heap[z]? = some (.cells #[] 3 (0, 0))) : w.ownsRow 0 3 1 (.slice (some ⟨z, 0, none⟩) 0 0) 0 [] :=
  ⟨rfl, Or.inr ⟨z, 0, #[], rfl, Nat.zero_le _, hz, Nat.le_refl _, by unfold maxLen; omega, rfl, rfl⟩⟩
end Go.Proofs.YtelakcjbknbehaaGreat
namespace Go.Proofs.YtelakcjbknbehaaGreat
open Go.RowKit Go.Lib

end Go.Proofs.YtelakcjbknbehaaGreat
namespace Go.Proofs.YtelakcjbknbehaaGreat
open Go.RowKit Go.Lib

theorem Ow.new_set {base : Nat} {w w' : World} (h : Ow base w w') {g : Nat} (hg : w.heap.size ≤ g) (i : Nat) (v : Value) : Ow base w (w'.setCell ⟨g, i, none⟩ v) := by
  obtain ⟨T, h1, h2⟩ := h
  exact ⟨T, h1.new_set hg i v, h2⟩
theorem Av.row {w : World} {g : Nat} {cs : Array Value} {t : TypeId} {fr : Nat × Nat} (h : w.heap[g]? = some (.cells cs t fr)) {ts : List Nat} (ht : t ∉ ts) : Av w [g] ts := fun x hx cs' t' fr' hh => by
  rw [List.mem_singleton] at hx; subst hx; rw [h] at hh; cases hh; exact ht
end Go.Proofs.YtelakcjbknbehaaGreat
namespace Go.Proofs.YtelakcjbknbehaaGreat
open Go.RowKit Go.Lib

/-- the bytes of a number, the least first. -/
def leB (v n : Nat) : List UInt8 := (List.range n).map fun i => UInt8.ofNat (v / 256 ^ i % 256)
theorem leB_length (v n : Nat) : (leB v n).length = n := by simp [leB]
/-- the row of n bytes of which j are written. -/
def rowL (n v j : Nat) : Array Value := ((List.range n).map fun i => Value.int .u8 (if i < j then ((v / 256 ^ i % 256 : Nat) : Int) else 0)).toArray
theorem rowL_zero (n v u : Nat) : rowL n v 0 = rowL n u 0 := by simp [rowL]
theorem rowL_get (n v j i : Nat) (h : i < n) : (rowL n v j)[i]? = some (.int .u8 (if i < j then ((v / 256 ^ i % 256 : Nat) : Int) else 0)) := by simp [rowL, h]
theorem rowL_set (n v j : Nat) (_h : j < n) : (rowL n v j).setIfInBounds j (.int .u8 ((v / 256 ^ j % 256 : Nat) : Int)) = rowL n v (j + 1) := by
  apply Array.ext
  · simp [rowL]
  · intro i h1 h2
    have hi : i < n := by simpa [rowL] using h2
    by_cases e : j = i
    · subst e
      simp [rowL]
    · rw [Array.getElem_setIfInBounds (by simpa [rowL] using hi), if_neg e]
      have : (i < j + 1) = (i < j) := by simp; omega
      simp [rowL, this]
theorem rowL_full (n v : Nat) : rowL n v n = (Lib.byteCells (leB v n)).toArray := by
  apply Array.ext
  · simp [rowL, Lib.byteCells, leB]
  · intro i h1 h2
    have hi : i < n := by simpa [rowL] using h1
    simp [rowL, Lib.byteCells, leB, hi]
set_option maxRecDepth 100000 in
set_option maxHeartbeats 1000000 in
theorem bput_any (w : World) (v n : Nat) (hn : n ≤ 8) (_hv : v < 18446744073709551616)
    (hmk : ∀ w : World, (Instr.makeSlice 47 (.int .i64 n) (.int .i64 n)).run Tryz.prog w = .ok (.slice (some ⟨w.heap.size, 0, none⟩) n n) (w.alloc (.cells (rowL n 0 0) 5))) :
    Calls Tryz.prog 193 #[.int .u64 v, .int .i64 n] w fun e w' => ∃ g, e = .returned (.slice (some ⟨g, 0, none⟩) n n) ∧ Chg [] w w' ∧ w'.heap[g]? = some (.cells (rowL n v n) 5 (0, 0)) ∧ w.heap.size ≤ g := by
  go_enter Tryz.func193, Tryz.ntmps193
  have g0 : (w.alloc (.cells (rowL n 0 0) 5)).heap[w.heap.size]? = some (.cells (rowL n v 0) 5 (0, 0)) := by
    rw [rowL_zero n v 0]
    exact heap_new w _
  have k0 : Chg [] w (w.alloc (.cells (rowL n 0 0) 5)) := Chg.alloc w _
  go_wp2_with fail
  generalize w.alloc (.cells (rowL n 0 0) 5) = w1 at *
  generalize hz : w.heap.size = z at *
  go_loopw [11] (fun i wr => ∃ j : Nat, j ≤ n ∧ i = .int .i64 j ∧ Chg [] w wr ∧ wr.heap[z]? = some (.cells (rowL n v j) 5 (0, 0))) (fun i _ => n - (intOf i).toNat)
  case atStart => exact ⟨0, by omega, rfl, k0, g0⟩
  case round =>
    obtain ⟨j, hj, rfl, kc, gj⟩ := hrel
    by_cases hlt : j < n
    · have cj : wr.cell? ⟨z, j, none⟩ = some (.int .u8 0) := by
        refine cell_is gj j ?_
        rw [rowL_get n v j j hlt, if_neg (Nat.lt_irrefl j)]
      have fj := unfrozen gj j
      clear g0 k0
      go_wp2_with fail
      have e : (v : Int) / 2 ^ (8 * j) % 256 = ((v / 256 ^ j % 256 : Nat) : Int) := by
        have h2 : (2 : Int) ^ (8 * j) = ((256 ^ j : Nat) : Int) := by
          rw [Int.pow_mul, Int.natCast_pow]
          rfl
        rw [h2]
        rfl
      refine ⟨⟨j + 1, by omega, by simp, kc.new_set (by omega) j _, ?_⟩, by simp [intOf]; omega⟩
      rw [e]
      exact heap_set gj j _ (rowL_set n v j hlt)
    · obtain rfl : j = n := by omega
      go_wp2_with fail
      go_ret
      exact ⟨z, rfl, kc, gj, by omega⟩
theorem bput_bs (w : World) (v n : Nat) (hn : n ≤ 8) (hv : v < 18446744073709551616)
    (hmk : ∀ w : World, (Instr.makeSlice 47 (.int .i64 n) (.int .i64 n)).run Tryz.prog w = .ok (.slice (some ⟨w.heap.size, 0, none⟩) n n) (w.alloc (.cells (rowL n 0 0) 5))) :
    Calls Tryz.prog 193 #[.int .u64 v, .int .i64 n] w fun e w' => ∃ g, e = .returned (.slice (some ⟨g, 0, none⟩) n n) ∧ Chg [] w w' ∧ Bs w' (some ⟨g, 0, none⟩) (leB v n) ∧ w.heap.size ≤ g := by
  refine (bput_any w v n hn hv hmk).mono ?_
  rintro e w' ⟨g, rfl, hc, hg, hl⟩
  refine ⟨g, rfl, hc, ?_, hl⟩
  rw [rowL_full] at hg
  exact Bs.row hg
set_option maxRecDepth 100000 in
theorem put32_any (w : World) (v : Nat) (hv : v < 4294967296) : Calls Tryz.prog 130 #[.int .u32 v] w fun e w' => ∃ g, e = .returned (.slice (some ⟨g, 0, none⟩) 4 4) ∧ Chg [] w w' ∧ Bs w' (some ⟨g, 0, none⟩) (leB v 4) ∧ w.heap.size ≤ g := by
  have HP := Lib.hid (bput_bs w v 4 (by omega) (by omega) (fun w => by kernel_rfl))
  go_enter Tryz.func130, Tryz.ntmps130
  go_wp2_with fail
  refine HP.out.mono ?_
  rintro e w' ⟨g, rfl, h1, h2, h3⟩
  go_wp2_with fail
  go_ret
  exact ⟨g, rfl, h1, h2, h3⟩
set_option maxRecDepth 100000 in
theorem put64_any (w : World) (v : Nat) (hv : v < 18446744073709551616) : Calls Tryz.prog 127 #[.int .u64 v] w fun e w' => ∃ g, e = .returned (.slice (some ⟨g, 0, none⟩) 8 8) ∧ Chg [] w w' ∧ Bs w' (some ⟨g, 0, none⟩) (leB v 8) ∧ w.heap.size ≤ g := by
  have HP := Lib.hid (bput_bs w v 8 (by omega) hv (fun w => by kernel_rfl))
  go_enter Tryz.func127, Tryz.ntmps127
  go_wp2_with fail
  refine HP.out.mono ?_
  rintro e w' ⟨g, rfl, h1, h2, h3⟩
  go_wp2_with fail
  go_ret
  exact ⟨g, rfl, h1, h2, h3⟩
end Go.Proofs.YtelakcjbknbehaaGreat
namespace Go.Proofs.YtelakcjbknbehaaGreat
open Go.RowKit Go.Lib

/-- a turn of the register. -/
def crcBit (r : Int) : Int := bits .xor .u32 (r / 2) (bits .and .u32 2197175160 (-(bits .and .u32 r 1) % 4294967296))
def crcBits : Nat → Int → Int
  | 0, r => r
  | n + 1, r => crcBit (crcBits n r)
/-- .. behind a byte. -/
def crcByte (r : Int) (c : UInt8) : Int := crcBits 8 (bits .xor .u32 r (c.toNat : Int))
def crcRun (r : Int) (l : List UInt8) : Int := l.foldl crcByte r
/-- the check sum of bytes. -/
def crcI (l : List UInt8) : Int := bits .xor .u32 IntKind.u32.max (crcRun (bits .xor .u32 IntKind.u32.max 0) l)
theorem wrap_u32 (n : Int) : 0 ≤ IntKind.u32.wrap n ∧ IntKind.u32.wrap n < 4294967296 := by
  have : IntKind.u32.wrap n = n % 4294967296 := by simp [IntKind.wrap, IntKind.signed, IntKind.bits]
  rw [this]; omega
theorem bits_u32 (op : BinOp) (x y : Int) : 0 ≤ bits op .u32 x y ∧ bits op .u32 x y < 4294967296 := wrap_u32 _
theorem crcI_ge (l : List UInt8) : 0 ≤ crcI l ∧ crcI l < 4294967296 := bits_u32 _ _ _
/-- .. as a number. -/
def crcN (l : List UInt8) : Nat := (crcI l).toNat
theorem crcN_lt (l : List UInt8) : crcN l < 4294967296 := by have := crcI_ge l; unfold crcN; omega
theorem crcN_eq (l : List UInt8) : ((crcN l : Nat) : Int) = crcI l := by have := crcI_ge l; unfold crcN; omega
set_option maxRecDepth 100000 in
set_option maxHeartbeats 2000000 in
theorem cadd_crc (w : World) {C : Nat} {pa : Option Addr} {m c : Nat} {l : List UInt8} (hC : w.heap[C]? = some (.cells #[.int .u32 0] 356 (0, 0))) (hb : Bs w pa l) (hl : l.length = m) (hm : m ≤ 1000000) :
    Calls Tryz.prog 255 #[.pointer (some ⟨C, 0, none⟩), .slice pa m c] w fun e w' => e = .returned (.pointer (some ⟨C, 0, none⟩)) ∧ Chg [C] w w' ∧ w'.heap[C]? = some (.cells #[.int .u32 (crcI l)] 356 (0, 0)) := by
  have c0 : w.cell? ⟨C, 0, none⟩ = some (.int .u32 0) := cell_is hC 0 rfl
  have f0 := unfrozen hC 0
  have HC := Lib.hid hC
  have HB := Lib.hid hb
  clear hC hb
  go_enter Tryz.func255, Tryz.ntmps255
  go_wp2_with fail
  go_loopw [5, 7, 17] (fun r _ i wr => ∃ j : Nat, j ≤ m ∧ i = .int .i64 j ∧ r = .int .u32 (crcRun (bits .xor .u32 IntKind.u32.max 0) (l.take j)) ∧ w = wr) (fun _ _ i _ => m - (intOf i).toNat)
  case atStart => exact ⟨0, by omega, rfl, rfl, rfl⟩
  case round =>
    obtain ⟨j, hj, rfl, rfl, rfl⟩ := hrel
    by_cases hlt : j < m
    · obtain ⟨b, o, rfl, cj⟩ : ∃ b o, pa = some ⟨b, o, none⟩ ∧ w.cell? ⟨b, o + j, none⟩ = some (.int .u8 (l[j]'(by omega)).toNat) := by
        rcases HB.out with h | ⟨b, o, e, _, h⟩
        · rw [h] at hl; simp at hl; omega
        · exact ⟨b, o, e, h j (by omega)⟩
      have htk : l.take (j + 1) = l.take j ++ [l[j]'(by omega)] := by rw [List.take_succ_eq_append_getElem]
      have hrun : crcRun (bits .xor .u32 IntKind.u32.max 0) (l.take (j + 1)) = crcByte (crcRun (bits .xor .u32 IntKind.u32.max 0) (l.take j)) (l[j]'(by omega)) := by rw [htk]; unfold crcRun; rw [List.foldl_append]; rfl
      have HR := Lib.hid hrun
      clear hrun htk
      generalize l[j]'(by omega) = y at *
      generalize crcRun (bits .xor .u32 IntKind.u32.max 0) (l.take j) = r at *
      go_wp2_with fail
      go_loopw [5, 25] (fun q i wr => ∃ k : Nat, k ≤ 8 ∧ i = .int .i64 k ∧ q = .int .u32 (crcBits k (bits .xor .u32 r (y.toNat : Int))) ∧ w = wr) (fun _ i _ => 8 - (intOf i).toNat)
      case atStart =>
        have hy : (y.toNat : Int) % 4294967296 = y.toNat := by have := y.toNat_lt; omega
        exact ⟨0, by omega, rfl, by rw [hy]; rfl, rfl⟩
      case round =>
        obtain ⟨k, hk, rfl, rfl, rfl⟩ := hrel
        by_cases hlk : k < 8
        · generalize hq : crcBits k (bits .xor .u32 r (y.toNat : Int)) = q at *
          go_wp2_with fail
          exact ⟨⟨k + 1, by omega, by simp, by rw [← hq]; rfl, trivial⟩, by simp [intOf]; omega⟩
        · obtain rfl : k = 8 := by omega
          generalize hq : crcBits 8 (bits .xor .u32 r (y.toNat : Int)) = q at *
          go_wp2_with fail
          exact ⟨⟨j + 1, by omega, by simp, by rw [HR.out, ← hq]; rfl, trivial⟩, by simp [intOf]; omega⟩
    · obtain rfl : j = m := by omega
      have ht : l.take j = l := List.take_of_length_le (by omega)
      rw [ht] at *
      go_wp2_with fail
      go_ret
      exact ⟨rfl, Chg.set w C 0 _, heap_set HC.out 0 _ rfl⟩
theorem cnew_crc (w : World) : Calls Tryz.prog 254 #[] w fun e w' => e = .returned (.pointer (some ⟨w.heap.size, 0, none⟩)) ∧ w' = w.alloc (.cells #[.int .u32 0] 356) := by
  go_enter Tryz.func254, Tryz.ntmps254
  go_wp2_with fail
  go_ret
  exact ⟨rfl, rfl⟩
theorem cval_crc (w : World) {C : Nat} {r : Int} (hC : w.heap[C]? = some (.cells #[.int .u32 r] 356 (0, 0))) : Calls Tryz.prog 256 #[.pointer (some ⟨C, 0, none⟩)] w fun e w' => e = .returned (.int .u32 r) ∧ w' = w := by
  have c0 : w.cell? ⟨C, 0, none⟩ = some (.int .u32 r) := cell_is hC 0 rfl
  clear hC
  go_enter Tryz.func256, Tryz.ntmps256
  go_wp2_with fail
  go_ret
  exact ⟨rfl, rfl⟩
set_option maxRecDepth 100000 in
theorem crc_of (w : World) {pa : Option Addr} {m c : Nat} {l : List UInt8} (hb : Bs w pa l) (hl : l.length = m) (hm : m ≤ 1000000) :
    Calls Tryz.prog 230 #[.slice pa m c] w fun e w' => e = .returned (.int .u32 (crcN l : Nat)) ∧ Chg [] w w' := by
  have HB := Lib.hid hb
  clear hb
  rw [crcN_eq]
  go_enter Tryz.func230, Tryz.ntmps230
  go_wp2_with fail
  refine (cnew_crc w).mono ?_
  rintro e w1 ⟨rfl, rfl⟩
  have k1 : Chg [] w (w.alloc (.cells #[.int .u32 0] 356)) := Chg.alloc w _
  have h1 := heap_new w (.cells #[.int .u32 0] 356)
  have HB1 := Lib.hid (HB.out.chg k1)
  generalize w.alloc (.cells #[.int .u32 0] 356) = w1 at *
  generalize hz : w.heap.size = C at *
  go_wp2_with fail
  refine (cadd_crc w1 h1 HB1.out hl hm).mono ?_
  rintro e w2 ⟨rfl, k2, h2⟩
  go_wp2_with fail
  refine (cval_crc w2 h2).mono ?_
  rintro e w3 ⟨rfl, rfl⟩
  go_wp2_with fail
  go_ret
  exact ⟨rfl, k1.trans k2 (fun x hx hlt => by simp at hx; omega)⟩
end Go.Proofs.YtelakcjbknbehaaGreat
namespace Go.Proofs.YtelakcjbknbehaaGreat
open Go.RowKit Go.Lib

set_option maxRecDepth 100000 in
set_option maxHeartbeats 1000000 in
theorem bgrow_nil (w : World) {k : Nat} (h0 : 0 < k) (h1 : k ≤ 1000000) : Calls Tryz.prog 253 #[.slice none 0 0, .int .i64 k] w fun e w' => ∃ v, e = .returned v ∧ Chg [] w w' ∧ w'.ownsRow w.heap.size 5 1 v 0 (Lib.byteCells []) := by
  obtain ⟨i, hi0, hz, hz1, hz2⟩ := info_parts inf5c
  have hr := fun ty => run_append_nil_zeros (P := Tryz.prog) w 47 3 ty 5 i (.int .u8 0) .i64 .i64 ty23 (by kernel_rfl) hi0 hz k h0 (by omega) (by omega) (by rw [hz2]; omega)
  have hge := grownCap_ge w k 0 5
  have hle := grownCap_le_maxLen w k 0 5 (by unfold maxLen; omega)
  have hsz : (Builtin.zeroCells (Value.int .u8 0).cells k ++ Builtin.zeroCells (Value.int .u8 0).cells (grownCap w k 0 5 - k)).size = grownCap w k 0 5 * 1 := by
    simp only [Array.size_append, size_zeroCells, Value.cells]
    simp
    omega
  generalize (Builtin.zeroCells (Value.int .u8 0).cells k ++ Builtin.zeroCells (Value.int .u8 0).cells (grownCap w k 0 5 - k)) = Z at *
  generalize grownCap w k 0 5 = G at *
  clear hi0 hz hz1 hz2
  have hk : ¬ ((k : Int) < 0) := by omega
  have hk2 : (k : Int) > 0 := by omega
  have hG63 : G ≤ 9223372036854775807 := by unfold maxLen at hle; omega
  have hf : (w.drew.alloc (.cells Z 5)).ownsRow w.heap.size 5 1 (.slice (some ⟨w.heap.size, 0, none⟩) 0 G) 0 (Lib.byteCells []) := by
    refine ⟨rfl, Or.inr ⟨w.heap.size, G, Z, rfl, Nat.le_refl _, heap_new w.drew _, Nat.zero_le _, hle, hsz, by simp [Lib.byteCells]⟩⟩
  have kc : Chg [] w (w.drew.alloc (.cells Z 5)) := (Chg.refl [] w).drew.then_alloc _
  go_enter Tryz.func253, Tryz.ntmps253
  go_wp2_with (at_builtin; refine Lib.wpList_append_run (w := w) rfl (.tmp 20) (.tmp 21) 47 3 rfl (.slice none 0 0) (.int .i64 k) rfl rfl _ _ (hr _) ?_)
  go_ret
  exact ⟨_, rfl, kc, hf⟩
/-- rows of bytes stand here. -/
def Rws (w : World) (A o : Nat) (ls : List (List UInt8)) : Prop := ∀ i (h : i < ls.length), ∃ pa c, w.cell? ⟨A, o + i, none⟩ = some (.slice pa ls[i].length c) ∧ Bs w pa ls[i]
theorem Rws.keep {w w' : World} {A o : Nat} {ls : List (List UInt8)} (h : Rws w A o ls) (hc : Chg [] w w') : Rws w' A o ls := fun i hi => by
  obtain ⟨pa, c, h1, h2⟩ := h i hi
  exact ⟨pa, c, hc.cell h1 (by simp), h2.chg hc⟩
theorem flat_take {ls : List (List UInt8)} {j : Nat} (h : j < ls.length) : (ls.take (j + 1)).flatten = (ls.take j).flatten ++ ls[j] := by
  rw [List.take_succ_eq_append_getElem h, List.flatten_append]
  simp
theorem flat_le (ls : List (List UInt8)) (j : Nat) : (ls.take j).flatten.length ≤ ls.flatten.length := by
  conv => rhs; rw [← List.take_append_drop j ls, List.flatten_append, List.length_append]
  omega
/-- how many bytes the first rows have. -/
def flatN (ls : List (List UInt8)) (j : Nat) : Nat := (ls.take j).flatten.length
theorem flatN_succ {ls : List (List UInt8)} {j : Nat} (h : j < ls.length) : flatN ls (j + 1) = flatN ls j + ls[j].length := by
  unfold flatN
  rw [flat_take h, List.length_append]
theorem flatN_le (ls : List (List UInt8)) (j : Nat) : flatN ls j ≤ flatN ls ls.length := by
  unfold flatN
  rw [List.take_of_length_le (Nat.le_refl ls.length)]
  exact flat_le ls j
set_option maxRecDepth 100000 in
set_option maxHeartbeats 2000000 in
theorem bconcat_any (w : World) {E o cp k n : Nat} {ls : List (List UInt8)} {F : List UInt8} (hs : Rws w E o ls) (hk : ls.length = k) (hk1 : k ≤ 1000) (hF : ls.flatten = F) (hn : F.length = n) (hm0 : 0 < n) (hm : n ≤ 100000) :
    Calls Tryz.prog 229 #[.slice (some ⟨E, o, none⟩) k cp] w fun e w' => ∃ v, e = .returned v ∧ Chg [] w w' ∧ w'.ownsRow w.heap.size 5 1 v n (Lib.byteCells F) := by
  have HS := Lib.hid hs
  have HM0 := Lib.hid hm0
  have HM := Lib.hid hm
  have hN : flatN ls k = n := by unfold flatN; rw [List.take_of_length_le (by omega), hF, hn]
  have HN := Lib.hid hN
  have HF := Lib.hid hF
  have HL := Lib.hid hn
  clear hs hm0 hm hF hn hN
  go_enter Tryz.func229, Tryz.ntmps229
  go_wp2_with fail
  go_loopw [3, 5, 11] (fun s _ i wr => ∃ j : Nat, j ≤ k ∧ i = .int .i64 j ∧ s = .int .i64 (flatN ls j : Nat) ∧ w = wr) (fun _ _ i _ => k - (intOf i).toNat)
  case atStart => exact ⟨0, by omega, rfl, rfl, rfl⟩
  case round =>
    obtain ⟨j, hj, rfl, rfl, rfl⟩ := hrel
    by_cases hlt : j < k
    · obtain ⟨pa, c, c0, -⟩ := HS.out j (by omega)
      have e1 := flatN_succ (ls := ls) (j := j) (by omega)
      have hb := flatN_le ls (j + 1)
      rw [hk, HN.out] at hb
      have hM := HM.out
      have hwr : wrap64 ((flatN ls j : Int) + (ls[j]'(by omega)).length) = (flatN ls (j + 1) : Nat) := by unfold wrap64; omega
      have hge : ¬ (wrap64 ((flatN ls j : Int) + (ls[j]'(by omega)).length) < 0) := by omega
      have HW := Lib.hid hwr
      clear hwr e1 hb hM
      generalize (ls[j]'(by omega)).length = q at *
      generalize flatN ls j = p at *
      go_wp2_with fail
      exact ⟨⟨j + 1, by omega, by simp, by rw [HW.out], trivial⟩, by simp [intOf]; omega⟩
    · obtain rfl : j = k := by omega
      rw [HN.out]
      have HG := Lib.hid (bgrow_nil w HM0.out (by have := HM.out; omega))
      go_wp2_with fail
      refine HG.out.mono ?_
      rintro e w1 ⟨v0, rfl, kc, ho0⟩
      have HA := Lib.hid (HS.out.keep kc)
      have hsz := kc.size
      have hn0 : flatN ls 0 = 0 := rfl
      have ho1 : w1.ownsRow w.heap.size 5 1 v0 (flatN ls 0) (Lib.byteCells (ls.take 0).flatten) := ho0
      go_wp2_with fail
      go_loopw [6, 8, 27] (fun v _ i wr => ∃ t : Nat, t ≤ j ∧ i = .int .i64 t ∧ Chg [] w wr ∧ wr.ownsRow w.heap.size 5 1 v (flatN ls t) (Lib.byteCells (ls.take t).flatten)) (fun _ _ i _ => j - (intOf i).toNat)
      case atStart => exact ⟨0, by omega, rfl, kc, ho1⟩
      case round =>
        obtain ⟨t, ht, rfl, k1, o1⟩ := hrel
        by_cases hlt : t < j
        · obtain ⟨pa, c, c0, hbs⟩ := (HS.out.keep k1) t (by omega)
          have HB := Lib.hid hbs
          have e1 := flatN_succ (ls := ls) (j := t) (by omega)
          have hb := flatN_le ls (t + 1)
          rw [hk, HN.out] at hb
          have hM := HM.out
          have hsum : flatN ls t + (ls[t]'(by omega)).length ≤ 100000 := by omega
          have HSu := Lib.hid hsum
          have HE := Lib.hid e1
          have HT := Lib.hid (flat_take (ls := ls) (j := t) (by omega))
          have hsz1 := k1.size
          have HO := Lib.hid o1
          clear hbs e1 hb hM hsum o1
          generalize hq : ls[t]'(by omega) = q at *
          generalize flatN ls t = p at *
          generalize (ls.take t).flatten = G at *
          go_wp2_with (at_builtin; refine wpList_append_bs rfl (.tmp 31) (.tmp 32) 47 5 rfl ty23 inf5c w.heap.size _ p G rfl HO.out pa q.length c q rfl rfl HB.out (by have := HSu.out; omega) hsz1 ?_; intro v1 w2 h1)
          go_roundw
          case rel => exact ⟨t + 1, by omega, by simp, Chg.of_below (k1.below0.trans h1.2.1), by rw [HE.out, HT.out]; exact h1.1⟩
          case measure => simp [intOf]; omega
        · obtain rfl : t = j := by omega
          go_wp2_with fail
          go_ret
          rw [HN.out, List.take_of_length_le (by omega), HF.out] at o1
          exact ⟨_, rfl, k1, o1⟩
end Go.Proofs.YtelakcjbknbehaaGreat
namespace Go.Proofs.YtelakcjbknbehaaGreat
open Go.RowKit Go.Lib

set_option maxRecDepth 100000 in
theorem within_any (n lo hi : Int) (w : World) : Calls Tryz.prog 231 #[.int .i64 n, .int .i64 lo, .int .i64 hi] w fun e w' => e = .returned (.bool (decide (lo ≤ n) && decide (n ≤ hi))) ∧ w = w' := by
  by_cases h : lo ≤ n
  · have e1 : decide (lo ≤ n) = true := decide_eq_true h
    go_enter Tryz.func231, Tryz.ntmps231
    go_wp2_with fail
    go_ret
    exact ⟨by simp [h], rfl⟩
  · have e1 : decide (lo ≤ n) = false := decide_eq_false h
    go_enter Tryz.func231, Tryz.ntmps231
    go_wp2_with fail
    go_ret
    exact ⟨by simp, rfl⟩
theorem within_yes (n lo hi : Int) (w : World) (h0 : lo ≤ n) (h1 : n ≤ hi) : Calls Tryz.prog 231 #[.int .i64 n, .int .i64 lo, .int .i64 hi] w fun e w' => e = .returned (.bool true) ∧ w = w' := by
  refine (within_any n lo hi w).mono ?_
  rintro e w' ⟨rfl, rfl⟩
  exact ⟨by rw [decide_eq_true h0, decide_eq_true h1]; rfl, rfl⟩
/-- a frame's bytes ahead of the check sum. -/
def headF (kind epoch seq lba : Nat) (body : List UInt8) : List UInt8 := [[UInt8.ofNat kind, UInt8.ofNat body.length], leB epoch 4, leB seq 8, leB lba 4, body].flatten
def coverF (kind epoch seq lba : Nat) (body : List UInt8) : List UInt8 := headF kind epoch seq lba body ++ List.replicate (60 - (headF kind epoch seq lba body).length) 0
/-- a frame's bytes. -/
def encF (kind epoch seq lba : Nat) (body : List UInt8) : List UInt8 := coverF kind epoch seq lba body ++ leB (crcN (coverF kind epoch seq lba body)) 4
theorem headF_length (kind epoch seq lba : Nat) (body : List UInt8) : (headF kind epoch seq lba body).length = 18 + body.length := by
  simp [headF, leB_length]; omega
theorem coverF_length (kind epoch seq lba : Nat) (body : List UInt8) (h : body.length ≤ 40) : (coverF kind epoch seq lba body).length = 60 := by
  rw [coverF, List.length_append, List.length_replicate, headF_length]; omega
theorem encF_length (kind epoch seq lba : Nat) (body : List UInt8) (h : body.length ≤ 40) : (encF kind epoch seq lba body).length = 64 := by
  rw [encF, List.length_append, leB_length, coverF_length _ _ _ _ _ h]
theorem two_len (a b : UInt8) : [a, b].length = 2 := rfl
theorem small_bs {w : World} {g a b : Nat} {t : TypeId} (h : w.heap[g]? = some (.cells #[.int .u8 a, .int .u8 b] t (0, 0))) (ha : a < 256) (hb : b < 256) : Bs w (some ⟨g, 0, none⟩) [UInt8.ofNat a, UInt8.ofNat b] := by
  refine Bs.row (e := t) (fr := (0, 0)) ?_
  rw [h]
  have e1 : (UInt8.ofNat a).toNat = a := by simp; omega
  have e2 : (UInt8.ofNat b).toNat = b := by simp; omega
  simp [Lib.byteCells, e1, e2]
theorem rws_five {w : World} {E : Nat} {t : TypeId} {p0 p1 p2 p3 p4 : Option Addr} {n0 n1 n2 n3 n4 c0 c1 c2 c3 c4 : Nat} {l0 l1 l2 l3 l4 : List UInt8}
    (h : w.heap[E]? = some (.cells #[.slice p0 n0 c0, .slice p1 n1 c1, .slice p2 n2 c2, .slice p3 n3 c3, .slice p4 n4 c4] t (0, 0))) (b0 : Bs w p0 l0) (b1 : Bs w p1 l1) (b2 : Bs w p2 l2) (b3 : Bs w p3 l3) (b4 : Bs w p4 l4)
    (e0 : l0.length = n0) (e1 : l1.length = n1) (e2 : l2.length = n2) (e3 : l3.length = n3) (e4 : l4.length = n4) : Rws w E 0 [l0, l1, l2, l3, l4] := by
  subst e0 e1 e2 e3 e4
  intro i hi
  rcases (show i = 0 ∨ i = 1 ∨ i = 2 ∨ i = 3 ∨ i = 4 by simp at hi; omega) with rfl | rfl | rfl | rfl | rfl
  · exact ⟨p0, c0, cell_is h 0 rfl, b0⟩
  · exact ⟨p1, c1, cell_is h 1 rfl, b1⟩
  · exact ⟨p2, c2, cell_is h 2 rfl, b2⟩
  · exact ⟨p3, c3, cell_is h 3 rfl, b3⟩
  · exact ⟨p4, c4, cell_is h 4 rfl, b4⟩
set_option maxRecDepth 100000 in
set_option maxHeartbeats 8000000 in
theorem fencode_any (w : World) {kind epoch seq lba n c : Nat} {pa : Option Addr} {body : List UInt8} (h1 : 1 ≤ kind) (h2 : kind ≤ 4) (h3 : epoch < 4294967296) (h4 : seq ≤ 1099511627776) (h5 : lba ≤ 1048576) (hn : body.length = n) (h6 : n ≤ 40) (hb : Bs w pa body) :
    Calls Tryz.prog 192 #[.agg #[.int .i64 kind, .int .i64 epoch, .int .i64 seq, .int .i64 lba, .slice pa n c]] w fun e w' => ∃ g c', e = .returned (.tuple #[.slice (some ⟨g, 0, none⟩) 64 c', .int .i64 0]) ∧ Chg [] w w' ∧ w.heap.size ≤ g ∧ Bs w' (some ⟨g, 0, none⟩) (encF kind epoch seq lba body) ∧ Bt w' g := by
  have k1 : Chg [] w (w.alloc (.cells #[.int .i64 kind, .int .i64 epoch, .int .i64 seq, .int .i64 lba, .slice pa n c] 282)) := Chg.alloc w _
  have K1 := heap_new w (.cells #[.int .i64 kind, .int .i64 epoch, .int .i64 seq, .int .i64 lba, .slice pa n c] 282)
  have HK := Lib.hid (show (1 : Int) ≤ kind ∧ (kind : Int) ≤ 4 by omega)
  have HE := Lib.hid (show (0 : Int) ≤ epoch ∧ (epoch : Int) ≤ 4294967295 by omega)
  have HS := Lib.hid (show (0 : Int) ≤ seq ∧ (seq : Int) ≤ 1099511627776 by omega)
  have HL := Lib.hid (show (0 : Int) ≤ lba ∧ (lba : Int) ≤ 1048576 by omega)
  have e1 : IntKind.u32.wrap (epoch : Int) = epoch := by rw [IntKind.wrap_u32]; omega
  have e2 : IntKind.u64.wrap (seq : Int) = seq := by rw [IntKind.wrap_u64]; omega
  have e3 : IntKind.u32.wrap (lba : Int) = lba := by rw [IntKind.wrap_u32]; omega
  have e4 : IntKind.u8.wrap (kind : Int) = kind := by rw [IntKind.wrap_u8]; omega
  have e5 : IntKind.u8.wrap (n : Int) = n := by rw [IntKind.wrap_u8]; omega
  have e6 : ¬ ((n : Int) > 40) := by omega
  have H3 := Lib.hid h3
  have H4 := Lib.hid (show seq < 18446744073709551616 by omega)
  have H5 := Lib.hid (show lba < 4294967296 by omega)
  have HB := Lib.hid (hb.chg k1)
  have HN := Lib.hid hn
  clear hb h1 h2 h3 h4 h5
  go_enter Tryz.func192, Tryz.ntmps192
  go_upto_region 1 with fail
  generalize w.alloc (.cells #[.int .i64 kind, .int .i64 epoch, .int .i64 seq, .int .i64 lba, .slice pa n c] 282) = w1 at *
  generalize hz : w.heap.size = z at *
  have a0 : w1.cell? ⟨z, 0, none⟩ = some (.int .i64 kind) := cell_is K1 0 rfl
  have a1 : w1.cell? ⟨z, 1, none⟩ = some (.int .i64 epoch) := cell_is K1 1 rfl
  have a2 : w1.cell? ⟨z, 2, none⟩ = some (.int .i64 seq) := cell_is K1 2 rfl
  have a3 : w1.cell? ⟨z, 3, none⟩ = some (.int .i64 lba) := cell_is K1 3 rfl
  have a4 : w1.cell? ⟨z, 4, none⟩ = some (.slice pa n c) := cell_is K1 4 rfl
  go_wp2_with fail
  refine (within_yes _ _ _ _ HK.out.1 HK.out.2).mono ?_
  rintro e w2 ⟨rfl, rfl⟩
  go_wp2_with fail
  refine (within_yes _ _ _ _ HE.out.1 HE.out.2).mono ?_
  rintro e w2 ⟨rfl, rfl⟩
  go_wp2_with fail
  refine (within_yes _ _ _ _ HS.out.1 HS.out.2).mono ?_
  rintro e w2 ⟨rfl, rfl⟩
  go_wp2_with fail
  refine (within_yes _ _ _ _ HL.out.1 HL.out.2).mono ?_
  rintro e w2 ⟨rfl, rfl⟩
  go_upto_region 5 with fail
  have HK8 := Lib.hid (show kind < 256 by have := HK.out; omega)
  have HN8 := Lib.hid (show n < 256 by omega)
  have HH := Lib.hid (show (headF kind epoch seq lba body).length = 18 + n by rw [headF_length, HN.out])
  have kD0 := (Chg.refl [] w1).drew
  have hS : ∀ wx, Chg [] w1 wx → wx.cell? ⟨z, 0, none⟩ = some (.int .i64 kind) ∧ wx.cell? ⟨z, 1, none⟩ = some (.int .i64 epoch) ∧ wx.cell? ⟨z, 2, none⟩ = some (.int .i64 seq) ∧ wx.cell? ⟨z, 3, none⟩ = some (.int .i64 lba) ∧ wx.cell? ⟨z, 4, none⟩ = some (.slice pa n c) := fun wx k => ⟨k.cell a0 (by simp), k.cell a1 (by simp), k.cell a2 (by simp), k.cell a3 (by simp), k.cell a4 (by simp)⟩
  go_cut [4] from 5 (fun v wx => Chg [] w wx ∧ wx.ownsRow z 5 1 v (18 + n) (Lib.byteCells (headF kind epoch seq lba body)))
  case first =>
    go_region_held3 (fun wx => wx.cell? ⟨z, 0, none⟩ = some (.int .i64 kind) ∧ wx.cell? ⟨z, 1, none⟩ = some (.int .i64 epoch) ∧ wx.cell? ⟨z, 2, none⟩ = some (.int .i64 seq) ∧ wx.cell? ⟨z, 3, none⟩ = some (.int .i64 lba) ∧ wx.cell? ⟨z, 4, none⟩ = some (.slice pa n c))
      (first
        | (with_reducible exact hS _ kC1) | (with_reducible exact hS _ kB1) | (with_reducible exact hS _ kA1) | (with_reducible exact hS _ kD0) | (with_reducible exact hS _ kF1)
        | (with_reducible exact hS _ (kC1.then_alloc _)) | (with_reducible exact hS _ (kB1.then_alloc _)) | (with_reducible exact hS _ (kA1.then_alloc _)) | (with_reducible exact hS _ (kD0.then_alloc _))
        | (with_reducible exact hS _ ((kC1.then_alloc _).then_alloc _)) | (with_reducible exact hS _ (Chg.alloc w1 _)) | (with_reducible exact hS _ (Chg.alloc w1 _).drew))
      (first
        | (go_at_call 127; refine (put64_any _ seq H4.out).mono ?_; rintro e wB ⟨gB, rfl, kB, bB, lB⟩; have kB1 : Chg [] w1 wB := (by first | with_reducible exact kA1.then kB | with_reducible exact (kA1.then_alloc _).then kB))
        | (go_at_call 229
           refine Calls.mono (bconcat_any _ (n := 18 + n) (F := headF kind epoch seq lba body) (ls := [[UInt8.ofNat kind, UInt8.ofNat n], leB epoch 4, leB seq 8, leB lba 4, body]) ?_ rfl (by decide) (by rw [headF, HN.out]) HH.out (by omega) (by omega)) ?_
           · first
             | (with_reducible exact rws_five (heap_new _ _) (Bs.chg (Bs.chg (Bs.chg (Bs.chg (Bs.chg (small_bs (heap_new _ _) HK8.out HN8.out) (Chg.refl [] _).drew) kA) kB) kC) (Chg.alloc _ _)) (Bs.chg (Bs.chg (Bs.chg bA kB) kC) (Chg.alloc _ _)) (Bs.chg (Bs.chg bB kC) (Chg.alloc _ _)) (Bs.chg bC (Chg.alloc _ _)) (Bs.chg (Bs.chg HB.out kC1) (Chg.alloc _ _)) (two_len _ _) (leB_length _ _) (leB_length _ _) (leB_length _ _) HN.out)
             | (with_reducible exact rws_five (heap_new _ _) (Bs.chg (Bs.chg (Bs.chg (small_bs (heap_new _ _) HK8.out HN8.out) kB) kC) (Chg.alloc _ _)) (Bs.chg (Bs.chg (Bs.chg (Bs.chg bA (Chg.alloc _ _)) kB) kC) (Chg.alloc _ _)) (Bs.chg (Bs.chg bB kC) (Chg.alloc _ _)) (Bs.chg bC (Chg.alloc _ _)) (Bs.chg (Bs.chg HB.out kC1) (Chg.alloc _ _)) (two_len _ _) (leB_length _ _) (leB_length _ _) (leB_length _ _) HN.out)
             | (with_reducible exact rws_five (heap_new _ _) (Bs.chg (Bs.chg (small_bs (heap_new _ _) HK8.out HN8.out) kC) (Chg.alloc _ _)) (Bs.chg (Bs.chg (Bs.chg (Bs.chg bA kB) (Chg.alloc _ _)) kC) (Chg.alloc _ _)) (Bs.chg (Bs.chg (Bs.chg bB (Chg.alloc _ _)) kC) (Chg.alloc _ _)) (Bs.chg bC (Chg.alloc _ _)) (Bs.chg (Bs.chg HB.out kC1) (Chg.alloc _ _)) (two_len _ _) (leB_length _ _) (leB_length _ _) (leB_length _ _) HN.out)
             | (with_reducible exact rws_five ((two_new _ _ _).2) (small_bs (two_new _ _ _).1 HK8.out HN8.out) (Bs.chg (Bs.chg (Bs.chg (Bs.chg bA kB) kC) (Chg.alloc _ _)) (Chg.alloc _ _)) (Bs.chg (Bs.chg (Bs.chg bB kC) (Chg.alloc _ _)) (Chg.alloc _ _)) (Bs.chg (Bs.chg bC (Chg.alloc _ _)) (Chg.alloc _ _)) (Bs.chg (Bs.chg (Bs.chg HB.out kC1) (Chg.alloc _ _)) (Chg.alloc _ _)) (two_len _ _) (leB_length _ _) (leB_length _ _) (leB_length _ _) HN.out)
           rintro e wF ⟨vF, rfl, kF, oF⟩
           have kF1 : Chg [] w1 wF := (by first | with_reducible exact (kC1.then_alloc _).then kF | with_reducible exact ((kC1.then_alloc _).then_alloc _).then kF))
        | (go_at_call 130; with_reducible refine Calls.mono (put32_any _ epoch H3.out) ?_; rintro e wA ⟨gA, rfl, kA, bA, lA⟩; have kA1 : Chg [] w1 wA := (by first | with_reducible exact kD0.then kA | with_reducible exact ((Chg.alloc w1 _).drew).then kA | with_reducible exact (kD0.then_alloc _).then kA))
        | (go_at_call 130; with_reducible refine Calls.mono (put32_any _ lba H5.out) ?_; rintro e wC ⟨gC, rfl, kC, bC, lC⟩; have kC1 : Chg [] w1 wC := (by first | with_reducible exact kB1.then kC | with_reducible exact (kB1.then_alloc _).then kC)))
    all_goals
      have kw := k1.then kF1
      have oz := own_base (base' := z) oF (by first | exact hz ▸ (k1.then (kC1.then_alloc _)).size | exact hz ▸ (k1.then ((kC1.then_alloc _).then_alloc _)).size)
      clear kF oF hS
      go_wp2_with fail
      go_meet
      exact ⟨kw, oz⟩
  case rest =>
    obtain ⟨kw, oz⟩ := hcut
    obtain ⟨p4, c4, rfl, -⟩ := own_form oz
    have hzc : z ≤ wc.heap.size := hz ▸ kw.size
    have hk42 : (60 : Int) - ((18 + n : Nat) : Int) = ((42 - n : Nat) : Int) := by omega
    have HCo := Lib.hid (show headF kind epoch seq lba body ++ List.replicate (42 - n) 0 = coverF kind epoch seq lba body by rw [coverF, HH.out]; congr 2; omega)
    have HLc := Lib.hid (show (coverF kind epoch seq lba body).length = 18 + n + (42 - n) by rw [coverF_length _ _ _ _ _ (by rw [HN.out]; omega)]; omega)
    have h60 : 18 + n + (42 - n) = 60 := by omega
    have H60 := Lib.hid h60
    have HEn := Lib.hid (show encF kind epoch seq lba body = coverF kind epoch seq lba body ++ leB (crcN (coverF kind epoch seq lba body)) 4 from rfl)
    have HEl := Lib.hid (encF_length kind epoch seq lba body (by rw [HN.out]; omega))
    have OZ := Lib.hid oz
    clear oz hS kD0 K1 a0 a1 a2 a3 a4 e1 e2 e3 e4 e5 e6 h60 hk42 k1
    generalize headF kind epoch seq lba body = hf at *
    generalize coverF kind epoch seq lba body = cf at *
    have hwn : wrap64 (60 - ((18 + n : Nat) : Int)) = ((42 - n : Nat) : Int) := by unfold wrap64; omega
    go_wp2_with (at_builtin; refine wpList_append_zeros rfl (.tmp 57) (.tmp 60) 47 3 5 rfl ty23 .i64 (by kernel_rfl) inf5c z _ (18 + n) hf rfl OZ.out .i64 (42 - n) _ (by omega) rfl (by omega) hzc ?_; intro v5 w5 h5)
    have o5 := h5.1
    rw [HCo.out, H60.out] at o5
    have k5 : Chg [] w w5 := Chg.of_below (Below.trans kw.below0 (by rw [hz]; exact h5.2.1))
    obtain ⟨p5, c5, rfl, -⟩ := own_form o5
    have b5 := Bs.own o5
    have hl5 := HLc.out
    rw [H60.out] at hl5
    refine (crc_of w5 b5 hl5 (by omega)).mono ?_
    rintro e w6 ⟨rfl, k6⟩
    have O6 := Lib.hid (own_keep o5 k6.below0)
    have HCn := Lib.hid (crcN_lt cf)
    have k56 := k5.then k6
    clear h5 o5 b5 hl5 OZ HCo hzc
    have hz6 : z ≤ w6.heap.size := hz ▸ k56.size
    go_wp2_with fail
    refine (put32_any w6 (crcN cf) HCn.out).mono ?_
    rintro e w7 ⟨g7, rfl, k7, b7, l7⟩
    have O7 := Lib.hid (own_keep O6.out k7.below0)
    have B7 := Lib.hid b7
    have hz7 : z ≤ w7.heap.size := hz ▸ (k56.then k7).size
    clear b7
    go_wp2_with (at_builtin; refine wpList_append_bs rfl (.tmp 62) (.tmp 65) 47 5 rfl ty23 inf5c z _ 60 cf rfl O7.out _ 4 4 (leB (crcN cf) 4) rfl (leB_length _ _) B7.out (by omega) hz7 ?_; intro v8 w8 h8)
    go_ret2
    have o8 := h8.1
    rw [← HEn.out] at o8
    obtain ⟨g8, c8, rfl, hb8, hbt⟩ : ∃ g c, v8 = .slice (some ⟨g, 0, none⟩) 64 c ∧ z ≤ g ∧ Bt w8 g := by
      rcases o8.2 with ⟨_, h0⟩ | ⟨g, cap, cur, e, hA, hgt, -⟩
      · omega
      · exact ⟨g, cap, e, hA, cur, hgt⟩
    exact ⟨g8, c8, rfl, Chg.of_below (Below.trans (k56.then k7).below0 (by rw [hz]; exact h8.2.1)), by omega, Bs.own o8, hbt⟩
end Go.Proofs.YtelakcjbknbehaaGreat
namespace Go.Proofs.YtelakcjbknbehaaGreat
open Go.RowKit Go.Lib

theorem nodup_new {w wr : World} {N : Nat} {Z : List Nat} {v : Value} (h : NewInv w wr N Z v) (hn : Z.Nodup) : (Z ++ [wr.heap.size]).Nodup := by
  rw [List.nodup_append]
  refine ⟨hn, by simp, fun a ha b hb => ?_⟩
  rw [List.mem_singleton] at hb
  subst hb
  have := heap_lt (h.2.2.2.2.2.2 a ha).2
  omega
/-- .. and the pointers' block is of its type, the zones are unlike. -/
def NewR2 (w : World) (e : Ending) (w' : World) : Prop :=
  ∃ N A c Z, e = .returned (.tuple #[.pointer (some ⟨N, 0, none⟩), .int .i64 0]) ∧ Chg [] w w' ∧ DevAt w' N A c 0 Z ∧ DevOk N A Z ∧ w.heap.size ≤ N ∧ w.heap.size ≤ A ∧ (∀ z ∈ Z, w.heap.size ≤ z) ∧ (∃ cs, w'.heap[A]? = some (.cells cs 129 (0, 0))) ∧ Z.Nodup
theorem NewInv.done2 {w wr : World} {N : Nat} {Z : List Nat} {v : Value} (h : NewInv w wr N Z v) (h8 : Z.length = 8) (hn : Z.Nodup) : NewR2 w (.returned (.tuple #[.pointer (some ⟨N, 0, none⟩), .int .i64 0])) wr := by
  obtain ⟨hc, hN, hN1, hv, hb, ho, hz⟩ := h
  rcases ho.2 with ⟨rfl, h0⟩ | ⟨A, c, cur, rfl, hA, hh, hle, _, hcs, htk⟩
  · omega
  · refine ⟨N, A, c, Z, rfl, hc, ⟨by rw [h8] at hb; exact hb, by omega, h8, ?_, fun j hj => (hz _ (List.getElem_mem hj)).2⟩, ⟨by omega, ?_, ?_⟩, hN, by omega, fun z hm => by have := (hz z hm).1; omega, ⟨_, hh⟩, hn⟩
    · intro j hj
      refine cell_is hh j ?_
      have h1 : (cur.toList.take (Z.length * 1))[j]? = (ptrs Z)[j]? := by rw [htk]
      rw [List.getElem?_take_of_lt (by omega), Array.getElem?_toList] at h1
      rw [h1]
      simp [ptrs, hj]
    · intro hm; have := (hz _ hm).1; omega
    · intro hm
      have h2 := (hz _ hm).2
      rw [hh] at h2
      injection h2 with h2
      injection h2 with e1 e2
      cases e2
set_option maxRecDepth 100000 in
set_option maxHeartbeats 1000000 in
theorem new_any2 (w : World) : Calls Tryz.prog 32 #[.agg #[.int .i64 8, .int .i64 96]] w (NewR2 w) := by
  go_enter Tryz.func32, Tryz.ntmps32
  go_wp2_with fail
  have hI : NewInv w ((w.alloc (.cells #[.int .i64 8, .int .i64 96] 67)).alloc (.cells #[.int .i64 8, .int .i64 96, .slice none 0 0, .int .i64 0, .int .i64 0, .bool false, .int .i64 0, .bool false] 128)) (w.heap.size + 1) [] (.slice none 0 0) :=
    ⟨chg_two w _ _, by omega, by simp, ⟨_, _, _, rfl⟩, (two_new w _ _).2, World.ownsRow_nil _ _ _ _, fun z hz => by cases hz⟩
  go_loopw [28] (fun i wr => ∃ (j : Nat) (Z : List Nat) (v : Value), i = .int .i64 j ∧ Z.length = j ∧ j ≤ 8 ∧ NewInv w wr (w.heap.size + 1) Z v ∧ Z.Nodup) (fun i _ => 8 - (intOf i).toNat)
  case atStart => exact ⟨0, [], _, rfl, rfl, by omega, hI, List.nodup_nil⟩
  case round =>
    obtain ⟨j, Z, v, rfl, rfl, hj, hN, hnd⟩ := hrel
    clear hI
    by_cases hlt : Z.length < 8
    · obtain ⟨p, m, c, rfl⟩ := hN.2.2.2.1
      have hb := hN.2.2.2.2.1
      have ho := hN.2.2.2.2.2.1
      have hsz := hN.2.2.1
      have e2 : wr.cell? ⟨w.heap.size + 1, 2, none⟩ = some (.slice p m c) := cell_is hb 2 rfl
      have HS := Lib.hid (fun v' w2 => NewInv.step (v' := v') (w2 := w2) hN rfl)
      have HK := Lib.hid (fun v' w2 n xs => NewInv.cell (v' := v') (w2 := w2) (n := n) (xs := xs) hN rfl)
      have hown := ho.alloc (.cells #[.slice none 0 0, .int .i64 0] 132)
      have hlt2 : w.heap.size + 1 + 1 ≤ (wr.alloc (.cells #[.slice none 0 0, .int .i64 0] 132)).heap.size := by simp; omega
      have hnd2 := Lib.hid (nodup_new hN hnd)
      clear hN hb ho
      go_wp2_with (at_builtin; refine wpList_append_lit rfl (.tmp 34) (.tmp 37) 126 129 rfl ty128 inf131 rfl (by decide) (w.heap.size + 1 + 1) _ [.pointer (some ⟨wr.heap.size, 0, none⟩)] 1 rfl _ Z.length (ptrs Z) rfl hown (by omega) (by decide) hlt2 (k := 0) rfl (by simp [Value.oneCell']) rfl 1 (by simp [go_sem]) ?_; intro v' w2 hap; obtain ⟨pa', c', rfl⟩ := own_slice hap.1; obtain ⟨k1, k2⟩ := HK.out _ _ _ _ hap)
      have hst := HS.out _ _ hap
      go_roundw
      case rel => exact ⟨Z.length + 1, Z ++ [wr.heap.size], _, by go_num, by simp, by omega, hst, hnd2.out⟩
      case measure => simp [intOf]; omega
    · have hD := hN.done2 (by omega) hnd
      go_wp2_with fail
      go_ret2
      exact hD
/-- what else a store holds: its slots are empty, its device's blocks are apart. -/
def ExAt (w : World) (S N A : Nat) (Z : List Nat) : Prop := SlotAt w S N ∧ (∃ cs, w.heap[A]? = some (.cells cs 129 (0, 0))) ∧ Z.Nodup
theorem ExAt.keep {w w' : World} {T : List Nat} {S N A : Nat} {Z : List Nat} (h : ExAt w S N A Z) (hc : Chg T w w') (h1 : S ∉ T) (h2 : A ∉ T) : ExAt w' S N A Z := by
  obtain ⟨a, ⟨cs, b⟩, c⟩ := h
  exact ⟨hc.heap a h1, ⟨cs, hc.heap b h2⟩, c⟩
theorem ExAt.keep0 {w w' : World} {S N A : Nat} {Z : List Nat} (h : ExAt w S N A Z) (hc : Chg [] w w') : ExAt w' S N A Z := h.keep hc (by simp) (by simp)
end Go.Proofs.YtelakcjbknbehaaGreat
