/- Lemmas and walks: Walks: a new schedule. Walks: a client begins a transaction. Walks: begin of a schedule's client. Walks: the bytes that the law writes. Walks: a client's write. Walks: a store's batch of one transaction is flushed, and what became of the transaction. Walks: a client asks for a commit; it is told of it. Walks: an op of a client is done. Walks: a client's step. Walks: a client's step that waits; a schedule's Flush. Any client: Qj's walks at its cells. Printed by mkCo.py. -/
import Derived.StillTailTactics
import Derived.Test.YtliicpedddcfiaaGreatAc
import Derived.Test.YtliicpedddcfiaaGreatAh
namespace Go.Proofs.YtliicpedddcfiaaGreat
open Go.RowKit Go.Lib

/-- a schedule's cells, where only the first client has done something. -/
def sch (N P : Nat) (o b a : Value) (q : Bool) (al : Value) (ev : Int) : Array Value :=
  #[.pointer (some ⟨N, 0, none⟩), .pointer (some ⟨P, 0, none⟩), o, b, a, .bool q, .slice none 0 0, .slice none 0 0, .slice none 0 0, .bool false, .slice none 0 0, .slice none 0 0, .slice none 0 0, .bool false, .slice none 0 0, .slice none 0 0, .slice none 0 0, .bool false, .slice none 0 0, .slice none 0 0, .slice none 0 0, .bool false, .slice none 0 0, .slice none 0 0, .slice none 0 0, .bool false, .slice none 0 0, .slice none 0 0, .slice none 0 0, .bool false, .slice none 0 0, .slice none 0 0, .slice none 0 0, .bool false, al, .int .i64 ev]
/-- what New leaves. -/
def NewT (w : World) (e : Ending) (w' : World) : Prop :=
  ∃ K d ops, e = .returned (.tuple #[.pointer (some ⟨K, 0, none⟩), .int .i64 0]) ∧ Chg [] w w' ∧ w.heap.size ≤ K ∧ Sto w' w.heap.size d (s00 w.heap.size) (g00 w.heap.size ops) ∧ (0 ≤ ops ∧ ops ≤ 2) ∧
    SchB w' K (sch d.N d.P (.slice none 0 0) (.slice none 0 0) (.slice none 0 0) false (.slice none 0 0) 0)
set_option maxRecDepth 100000 in
set_option maxHeartbeats 2000000 in
theorem snew_any (w : World) : Calls Tryz.prog 6 #[.agg #[.int .i64 8, .int .i64 96]] w (NewT w) := by
  have kg : Chg [] w (w.alloc (.cells #[.int .i64 8, .int .i64 96] 28)) := Chg.alloc w _
  have g0 := heap_new w (.cells #[.int .i64 8, .int .i64 96] 28)
  have a0 : (w.alloc (.cells #[.int .i64 8, .int .i64 96] 28)).cell? ⟨w.heap.size, 0, none⟩ = some (.int .i64 8) := cell_is g0 0 rfl
  have a1 : (w.alloc (.cells #[.int .i64 8, .int .i64 96] 28)).cell? ⟨w.heap.size, 1, none⟩ = some (.int .i64 96) := cell_is g0 1 rfl
  go_enter Tryz.func6, Tryz.ntmps6
  go_wp2_with fail
  generalize w.alloc (.cells #[.int .i64 8, .int .i64 96] 28) = w0 at *
  have hw0 := kg.size
  generalize hz0 : w.heap.size = z0 at *
  refine (new_any2 w0).mono ?_
  rintro e w1 ⟨N, A, c, Z, rfl, k1, hD, hO, lN, lA, lZ, hAx, hZn⟩
  have g1 := k1.heap g0 (by simp)
  have hs1 := k1.size
  have hAl := hD.A_lt
  have hNl := heap_lt hD.1
  have hZl : ∀ z ∈ Z, z < w1.heap.size := fun z hz => by
    obtain ⟨j, hj, e⟩ := List.getElem_of_mem hz
    rw [← e]
    exact heap_lt (hD.2.2.2.2 j hj)
  clear a0 a1
  go_wp2_with fail
  refine (mount_any w1 hD hO hZl (by omega) (by omega)).mono ?_
  rintro e w2 ⟨P, S, M, X, rx, B, rb, r, rfl, hM, lP, lS, lM, lX, lrx, lB, lrb, lr, n1, n2, n3⟩
  have h0l := heap_lt g0
  have k2 := hM.1
  have hX2 : ExAt w2 S N A Z := by
    obtain ⟨cs, hAx⟩ := hAx
    exact ⟨hM.2.2.2.1, ⟨cs, k2.heap hAx (by intro hm; rcases List.mem_cons.1 hm with e | hm; exact hO.1 e; exact hO.2.2 hm)⟩, hZn⟩
  have hs2 := k2.size
  have hSt := hM.sto (lw := z0) hX2 n1 n2 n3 (by omega) (fun z hz => by have := lZ z hz; omega) (by omega)
  have kk2 : Chg [] w w2 := (kg.then k1).trans k2 (fun x hx hlt => by
    rcases List.mem_cons.1 hx with e | hx
    · have := kg.size; omega
    · have := lZ x hx; have := kg.size; omega)
  clear hD hO hM hX2 k2 g1 g0 k1 kg
  go_wp2_with fail
  have k3 : Chg [] w2 (w2.alloc (.cells (sch N P (.slice none 0 0) (.slice none 0 0) (.slice none 0 0) false (.slice none 0 0) 0) 72)) := Chg.alloc w2 _
  have hK := heap_new w2 (.cells (sch N P (.slice none 0 0) (.slice none 0 0) (.slice none 0 0) false (.slice none 0 0) 0) 72)
  have hfin : ∃ ops, Sto (w2.alloc (.cells (sch N P (.slice none 0 0) (.slice none 0 0) (.slice none 0 0) false (.slice none 0 0) 0) 72)) z0 (d00 N A c Z P S M X rx B rb r) (s00 z0) (g00 z0 ops) ∧ (0 ≤ ops ∧ ops ≤ 2) := ⟨_, hSt.keep k3, by omega⟩
  obtain ⟨ops, hF, hops⟩ := hfin
  go_ret2
  exact ⟨_, d00 N A c Z P S M X rx B rb r, ops, rfl, kk2.then k3, by rw [hz0]; omega, by rw [hz0]; exact hF, hops, hK⟩
set_option maxRecDepth 100000 in
theorem least25 (w : World) : Calls Tryz.prog 7 #[] w fun e w' => e = .returned (.agg #[.int .i64 8, .int .i64 96]) ∧ Chg [] w w' := by
  have k1 : Chg [] w (w.alloc (.cells #[.int .i64 8, .int .i64 96] 28)) := Chg.alloc w _
  have y1 := heap_new w (.cells #[.int .i64 8, .int .i64 96] 28)
  have c0 := cell_is y1 0 rfl
  have c1 := cell_is y1 1 rfl
  go_enter Tryz.func7, Tryz.ntmps7
  go_wp2_with fail
  refine bodyPost_ret (v := .agg #[.int .i64 8, .int .i64 96]) (by simp [results, Tryz.results7, go_sem]) rfl ?_
  exact ⟨rfl, k1⟩
set_option maxRecDepth 100000 in
theorem rsched_any (w : World) : Calls Tryz.prog 31 #[.agg #[.int .i64 8, .int .i64 96]] w fun e w' => ∃ R, e = .returned (.tuple #[.pointer (some ⟨R, 0, none⟩), .int .i64 0]) ∧ Chg [] w w' := by
  have k0 : Chg [] w (w.alloc (.cells #[.int .i64 8, .int .i64 96] 28)) := Chg.alloc w _
  have y0 := heap_new w (.cells #[.int .i64 8, .int .i64 96] 28)
  go_enter Tryz.func31, Tryz.ntmps31
  go_wp2_with fail
  generalize w.alloc (.cells #[.int .i64 8, .int .i64 96] 28) = w0 at *
  have a0 := cell_is y0 0 rfl
  have a1 := cell_is y0 1 rfl
  refine (rmay_min w0).mono ?_
  rintro e w1 ⟨rfl, k1⟩
  have b0 := k1.cell a0 (by simp)
  have b1 := k1.cell a1 (by simp)
  have kk1 := k0.then k1
  have y1 := k1.heap y0 (by simp)
  clear a0 a1 k0 k1 y0
  go_wp2_with fail
  refine (rcap_min w1).mono ?_
  rintro e w2 ⟨rfl, k2⟩
  have d0 := k2.cell b0 (by simp)
  have d1 := k2.cell b1 (by simp)
  have kk2 := kk1.then k2
  have y2 := k2.heap y1 (by simp)
  clear b0 b1 kk1 k2 y1
  go_wp2_with fail
  refine (rm_new w2).mono ?_
  rintro e w3 ⟨G, Y, rfl, k3, -⟩
  have e0 := k3.cell d0 (by simp)
  have e1 := k3.cell d1 (by simp)
  have kk3 := Lib.hid (kk2.then k3)
  clear d0 d1 kk2 k3 y2
  go_wp2_with fail
  go_ret2
  exact ⟨_, rfl, kk3.out.then_alloc _⟩
/-- a new world of law 25. -/
def FrW (w : World) (e : Ending) (w' : World) : Prop :=
  ∃ C K R d ops lw, e = .returned (.tuple #[.pointer (some ⟨C, 0, none⟩), .bool true]) ∧ Chg [] w w' ∧ w.heap.size ≤ lw ∧ lw ≤ K ∧ lw ≤ C ∧ lw ≤ w'.heap.size ∧ w'.heap[C]? = some (.cells #[.pointer (some ⟨K, 0, none⟩), .pointer (some ⟨R, 0, none⟩), .int .i64 0] 58 (0, 0)) ∧
    Sto w' lw d (s00 lw) (g00 lw ops) ∧ (0 ≤ ops ∧ ops ≤ 2) ∧ SchB w' K (sch d.N d.P (.slice none 0 0) (.slice none 0 0) (.slice none 0 0) false (.slice none 0 0) 0)
set_option maxRecDepth 100000 in
theorem fresh25 (w : World) : Calls Tryz.prog 16 #[] w (FrW w) := by
  go_enter Tryz.func16, Tryz.ntmps16
  go_wp2_with fail
  refine (least25 w).mono ?_
  rintro e w1 ⟨rfl, k1⟩
  go_wp2_with fail
  refine (snew_any w1).mono ?_
  rintro e w2 ⟨K, d, ops, rfl, k2, lK, hS, ho, hK⟩
  have HS := Lib.hid (And.intro (k1.then k2) (And.intro hS hK))
  have hs1 := k1.size
  clear k1 k2 hS hK
  go_wp2_with fail
  refine (least25 w2).mono ?_
  rintro e w3 ⟨rfl, k3⟩
  go_wp2_with fail
  refine (rsched_any w3).mono ?_
  rintro e w4 ⟨R, rfl, k4⟩
  have k5 : Chg [] w2 (w4.alloc (.cells #[.pointer (some ⟨K, 0, none⟩), .pointer (some ⟨R, 0, none⟩), .int .i64 0] 58)) := (k3.then k4).then_alloc _
  have y5 := heap_new w4 (.cells #[.pointer (some ⟨K, 0, none⟩), .pointer (some ⟨R, 0, none⟩), .int .i64 0] 58)
  have h4 : w1.heap.size ≤ w4.heap.size := by have := (k3.then k4).size; have : (s00 w1.heap.size).lo ≤ w2.heap.size := HS.out.2.1.slo; have e : (s00 w1.heap.size).lo = w1.heap.size := rfl; omega
  have HF := Lib.hid (And.intro k5 y5)
  clear k3 k4 k5 y5
  go_wp2_with fail
  go_ret2
  exact ⟨_, K, R, d, ops, w1.heap.size, rfl, HS.out.1.then HF.out.1, hs1, lK, h4, by have := HF.out.1.size; have := HS.out.2.1.slo; exact Nat.le_trans this ‹_›, HF.out.2, HS.out.2.1.keep HF.out.1, ho, HF.out.1.heap HS.out.2.2 (by simp)⟩
end Go.Proofs.YtliicpedddcfiaaGreat
namespace Go.Proofs.YtliicpedddcfiaaGreat
open Go.RowKit Go.Lib

/-- what changes lies at lw or behind it, and is no op, no put, no bytes, no answer, no world of the law. -/
def Lo (lw : Nat) (w w' : World) : Prop := ∃ U, Chg U w w' ∧ ∀ x ∈ U, x < w.heap.size → lw ≤ x ∧ ∀ cs t fr, w.heap[x]? = some (.cells cs t fr) → t ∉ [33, 37, 5, 58, 39]
theorem Lo.of0 {lw : Nat} {w w' : World} (h : Chg [] w w') : Lo lw w w' := ⟨[], h, fun x hx => by cases hx⟩
theorem Lo.of_cs {lw : Nat} {w w' : World} (h : Cs lw w w') : Lo lw w w' := by
  obtain ⟨U, h1, h2⟩ := h
  refine ⟨U, h1, fun x hx hl => ⟨(h2 x hx hl).1, fun cs t fr hh hm => ?_⟩⟩
  exact (by decide : ∀ u ∈ ([105, 184, 212, 237, 247, 93, 97, 34, 3, 240, 159] : List Nat), u ∉ [33, 37, 5, 58, 39]) t ((h2 x hx hl).2 cs t fr hh) hm
theorem Lo.of_ow {base lw : Nat} {w w' : World} (h : Ow base w w') (hb : lw ≤ base) : Lo lw w w' := by
  obtain ⟨U, h1, h2⟩ := h
  refine ⟨U, h1, fun x hx _ => ⟨Nat.le_trans hb (h2 x hx).1, fun cs t fr hh hm => ?_⟩⟩
  rcases (h2 x hx).2 cs t fr hh with rfl | rfl | rfl <;> simp at hm
theorem Lo.of_tp {lw : Nat} {w w' : World} {U ts : List Nat} (h : Chg U w w') (ht : Tp w U ts) (hts : ∀ t ∈ ts, t ∉ [33, 37, 5, 58, 39]) (hl : ∀ x ∈ U, lw ≤ x) : Lo lw w w' :=
  ⟨U, h, fun x hx _ => ⟨hl x hx, fun cs t fr hh => by
    obtain ⟨cs2, t2, h2, h3⟩ := ht x hx
    rw [h2] at hh
    cases hh
    exact hts _ h3⟩⟩
theorem Lo.trans {lw : Nat} {a b c : World} (h : Lo lw a b) (k : Lo lw b c) : Lo lw a c := by
  obtain ⟨S, h1, h2⟩ := h
  obtain ⟨U, k1, k2⟩ := k
  refine ⟨S ++ U, (h1.mono (fun x hx _ => List.mem_append_left _ hx)).trans k1 (fun x hx _ => List.mem_append_right _ hx), fun x hx hlt => ?_⟩
  by_cases hT : x ∈ S
  · exact h2 x hT hlt
  · rcases List.mem_append.1 hx with h | h
    · exact absurd h hT
    · obtain ⟨e1, e2⟩ := k2 x h (Nat.lt_of_lt_of_le hlt h1.size)
      exact ⟨e1, fun cs t fr hh => e2 cs t fr (by rw [h1.block x hlt hT]; exact hh)⟩
theorem Lo.then_chg {lw : Nat} {a b c : World} {S : List Nat} (h : Lo lw a b) (k : Chg S b c) (hS : ∀ x ∈ S, x < a.heap.size → lw ≤ x ∧ ∀ cs t fr, b.heap[x]? = some (.cells cs t fr) → t ∉ [33, 37, 5, 58, 39]) : Lo lw a c := by
  obtain ⟨U, h1, h2⟩ := h
  refine ⟨U ++ S, (h1.mono (fun x hx _ => List.mem_append_left _ hx)).trans k (fun x hx _ => List.mem_append_right _ hx), fun x hx hlt => ?_⟩
  by_cases hT : x ∈ U
  · exact h2 x hT hlt
  · rcases List.mem_append.1 hx with h | h
    · exact absurd h hT
    · obtain ⟨e1, e2⟩ := hS x h hlt
      exact ⟨e1, fun cs t fr hh => e2 cs t fr (by rw [h1.block x hlt hT]; exact hh)⟩
theorem Cs.new_chg {lw : Nat} {a b c : World} {S : List Nat} (h : Cs lw a b) (k : Chg S b c) (hS : ∀ x ∈ S, a.heap.size ≤ x) : Cs lw a c := by
  obtain ⟨U, h1, h2⟩ := h
  exact ⟨U, h1.trans k (fun x hx hlt => by have := hS x hx; omega), h2⟩
theorem Lo.chg0 {lw : Nat} {w0 w w' : World} (h : Chg [] w0 w) (k : Lo lw w w') (hl : w0.heap.size ≤ lw) : Chg [] w0 w' := by
  obtain ⟨U, k1, k2⟩ := k
  exact h.trans k1 (fun x hx hlt => by have := (k2 x hx (Nat.lt_of_lt_of_le hlt h.size)).1; omega)
theorem Lo.size {lw : Nat} {w w' : World} (h : Lo lw w w') : w.heap.size ≤ w'.heap.size := by obtain ⟨U, h1, -⟩ := h; exact h1.size
theorem Lo.heap {lw : Nat} {w w' : World} (h : Lo lw w w') {x : Nat} {cs : Array Value} {t : TypeId} {fr : Nat × Nat} (hh : w.heap[x]? = some (.cells cs t fr)) (ht : t ∈ [33, 37, 5, 58, 39]) : w'.heap[x]? = some (.cells cs t fr) := by
  obtain ⟨U, k1, k2⟩ := h
  exact k1.heap hh (fun hm => (k2 x hm (heap_lt hh)).2 cs t fr hh ht)
theorem ty144 : Tryz.prog.underlying 66 = some (.slice 83) := by kernel_rfl
theorem inf158 : (Tryz.prog.info? 83).map (fun i => (i.zero, i.size, i.bytes)) = some (some (.pointer none), 1, 8) := by kernel_rfl
/-- a begin is put behind a row of begins. -/
theorem wpList_append_beg {ops : Array Oper} {rest : List Oper} {o : Oper} {a : Act} {w : World} {Q : Exit → Act → World → Prop} (hgd : o.guard = none) (s x : Operand)
    (ho : o.op = .call { callee := .builtin .append, args := #[s, x], argTypes := #[66, 66] }) (base b c n : Nat) (v u : Value) (xs : List Value) (hs : a.eval s = v) (hown : w.ownsRow base 83 1 v n xs) (hbase : base ≤ w.heap.size) (hn : n ≤ 1000)
    (hx : a.eval x = .slice (some ⟨b, 0, none⟩) 1 c) (hb : w.cell? ⟨b, 0, none⟩ = some u) (h1 : u.oneCell' = true)
    (h : ∀ g cap w', w'.ownsRow base 83 1 (.slice (some ⟨g, 0, none⟩) (n + 1) cap) (n + 1) (xs ++ [u]) → Chg v.ownBlock.toList w w' → (v.ownBlock = some g ∨ g = w.heap.size) → wpList Tryz.prog ops Q rest (a.put o.dst (.slice (some ⟨g, 0, none⟩) (n + 1) cap)) w') : wpList Tryz.prog ops Q (o :: rest) a w := by
  obtain ⟨i, hi0, hz, hz1, hz2⟩ := info_parts inf158
  refine wpList_append_lies w hgd s x 66 ho base 83 i _ 1 8 ty144 hi0 hz hz1 hz2 rfl (by decide) v n xs hs hown ⟨b, 0, none⟩ 1 c [u] hx rfl ?_ ?_ (by decide) (by unfold maxLen; omega) (by omega) hbase _ rfl ?_
  · intro j t hu
    rw [show (⟨b, 0, none⟩ : Addr).add j = ⟨b, 0 + j, none⟩ from by unfold Addr.add; split <;> simp_all, Nat.zero_add]
    match j with
    | 0 => cases hu; exact hb
    | j + 1 => simp at hu
  · intro t hu
    simp at hu
    subst hu
    exact h1
  · intro g cap w' h2 h3 h4 _
    exact h g cap w' h2 (Chg.of_grownO h3) h4
set_option maxRecDepth 100000 in
theorem at_ok (w : World) {K : Nat} {o g c n Bb : Nat} {i h : Int} (c1 : w.cell? ⟨K, o + 1, none⟩ = some (.slice (some ⟨g, 0, none⟩) n c)) (i0 : i = 0) (hn : 0 < n) (g0 : w.cell? ⟨g, 0, none⟩ = some (.pointer (some ⟨Bb, 0, none⟩))) (b0 : w.cell? ⟨Bb, 0, none⟩ = some (.int .i64 h)) (hh : 0 < h) :
    Calls Tryz.prog 50 #[.pointer (some ⟨K, o, none⟩), .int .i64 i] w fun e w' => e = .returned (.pointer (some ⟨Bb, 0, none⟩)) ∧ w = w' := by
  subst i0
  have n1 : decide ((n : Int) ≤ 0) = false := decide_eq_false (by omega)
  have n2 : decide (h = 0) = false := decide_eq_false (by omega)
  go_enter Tryz.func50, Tryz.ntmps50
  go_wp2_with fail
  go_ret
  exact ⟨rfl, rfl⟩
end Go.Proofs.YtliicpedddcfiaaGreat
namespace Go.Proofs.YtliicpedddcfiaaGreat
open Go.RowKit Go.Lib

/-- a begin's cells. -/
def begC (h from_ to_ : Int) : Array Value := #[.int .i64 h, .int .i64 from_, .int .i64 to_, .int .i64 0, .int .i64 0, .int .i64 0, .int .i64 0, .int .i64 0, .slice none 0 0, .slice none 0 0]
/-- what a client's begin leaves. -/
def CBeg (w w' : World) (lw K : Nat) (d : Ids) (s : Gs) (g : Gd) (o av : Value) (q : Bool) (ev : Int) (nb na : Nat) (xb xa : List Value) : Prop :=
  ∃ T W rw Q V base Bb bv al, Lo lw w w' ∧ w.heap.size ≤ T ∧ w.heap.size ≤ base ∧ lw ≤ Bb ∧ SchB w' K (sch d.N d.P o bv av q al ev) ∧
    w'.ownsRow lw 83 1 bv (nb + 1) (xb ++ [.pointer (some ⟨Bb, 0, none⟩)]) ∧ w'.ownsRow lw 83 1 al (na + 1) (xa ++ [.pointer (some ⟨Bb, 0, none⟩)]) ∧ w'.heap[Bb]? = some (.cells (begC (s.bl + 1) ev 0) 85 (0, 0)) ∧
    Su w' base { d with T := T, W := W, rw := rw, Q := Q, V := V } (begP s) (StoF lw { d with T := T, W := W, rw := rw, Q := Q, V := V } (begS s T) g) (fun b => bytT (s.vs b) s.last) [] 0 ∧ d.rx < base ∧ d.rb < base ∧ d.r < base
theorem own_cs {w w' : World} {lw base e size n : Nat} {v : Value} {xs : List Value} (h : w.ownsRow base e size v n xs) (hc : Cs lw w w') (he : e ∉ [105, 184, 212, 237, 247, 93, 97, 34, 3, 240, 159]) : w'.ownsRow base e size v n xs := by
  obtain ⟨U, h1, h2⟩ := hc
  refine own_chgB h h1 (fun g hg hm => ?_)
  obtain ⟨-, cur, hh⟩ := own_elem h hg
  exact he ((h2 g hm (heap_lt hh)).2 _ _ _ hh)
set_option maxRecDepth 100000 in
set_option maxHeartbeats 4000000 in
theorem cbegin_ok (w : World) {K lw nb na : Nat} {d : Ids} {s : Gs} {g : Gd} {o bv av al : Value} {q : Bool} {ev : Int} {xb xa : List Value} (h : Sto w lw d s g) (hB : SchB w K (sch d.N d.P o bv av q al ev)) (hob : w.ownsRow lw 83 1 bv nb xb) (hoa : w.ownsRow lw 83 1 al na xa)
    (hne : ∀ x, bv.ownBlock = some x → al.ownBlock ≠ some x) (hnb : nb ≤ 900) (hna : na ≤ 900) (hLb : s.Lb = []) (h0 : 0 ≤ s.last) (h1 : s.last ≤ 1099511627776) (hb0 : 0 ≤ s.bl) (hb1 : s.bl ≤ 1000000) (hK : lw ≤ K) (hl : lw ≤ w.heap.size) :
    Calls Tryz.prog 49 #[.pointer (some ⟨K, 0, none⟩), .pointer (some ⟨K, 2, none⟩), .agg #[.int .i64 1, .int .i64 0, .int .i64 0, .int .i64 0, .slice none 0 0]] w fun e w' =>
      e = .returned (.agg #[.int .i64 1, .int .i64 0, .int .i64 nb, .int .i64 s.last, .slice none 0 0]) ∧ CBeg w w' lw K d s g o av q ev nb na xb xa := by
  have kk : Chg [] w ((w.alloc (.cells #[.int .i64 1, .int .i64 0, .int .i64 0, .int .i64 0, .slice none 0 0] 39)).alloc (.cells #[.int .i64 0, .int .i64 0, .int .i64 0, .int .i64 0, .slice none 0 0] 39)) := (Chg.alloc w _).then_alloc _
  obtain ⟨y1, y2⟩ := heap_new2 w (.cells #[.int .i64 1, .int .i64 0, .int .i64 0, .int .i64 0, .slice none 0 0] 39) (.cells #[.int .i64 0, .int .i64 0, .int .i64 0, .int .i64 0, .slice none 0 0] 39)
  generalize hw0 : (w.alloc (.cells #[.int .i64 1, .int .i64 0, .int .i64 0, .int .i64 0, .slice none 0 0] 39)).alloc (.cells #[.int .i64 0, .int .i64 0, .int .i64 0, .int .i64 0, .slice none 0 0] 39) = w0 at *
  have hz1 := heap_lt y1
  generalize hz : w.heap.size = z at *
  have H0 := h.keep kk
  have B0 : SchB w0 K (sch d.N d.P o bv av q al ev) := kk.heap hB (by simp)
  have hKz : K < z := by rw [← hz]; exact heap_lt hB
  have hob0 := own_keep hob kk.below0
  have hoa0 := own_keep hoa kk.below0
  have HLa := Lib.hid (last_ok w0 (P := d.P) (cell_is H0.store 5 rfl) (cell_is H0.mx.mgr 0 rfl) (cell_is H0.mx.mgr 7 rfl))
  have HBe := Lib.hid (sbegin_gen w0 H0 hLb h0 h1 hb0 hb1)
  have k1 : w0.cell? ⟨K, 1, none⟩ = some (.pointer (some ⟨d.P, 0, none⟩)) := cell_is B0 1 rfl
  have HH := Lib.hid (And.intro H0 (And.intro B0 (And.intro hob0 (And.intro hoa0 (And.intro y1 (And.intro y2 kk))))))
  clear H0 B0 hob0 hoa0 h hB hob hoa kk y1 y2
  go_enter Tryz.func49, Tryz.ntmps49
  go_wp2_with fail
  refine HLa.out.mono ?_
  rintro e w1 ⟨rfl, rfl⟩
  go_wp2_with fail
  refine HBe.out.mono ?_
  rintro e w2 ⟨rfl, T, W, rw, Q, V, cs2, hT, hSu⟩
  obtain ⟨H0, B0, hob0, hoa0, y1, y2, kk⟩ := HH.out
  have B2 : SchB w2 K _ := cs2.heap B0 (by decide)
  have z2 := cs2.heap y1 (by decide)
  have x2 := cs2.heap y2 (by decide)
  have hob2 := own_cs hob0 cs2 (by decide)
  have hoa2 := own_cs hoa0 cs2 (by decide)
  have HLt := Lib.hid (show d.rx < w0.heap.size ∧ d.rb < w0.heap.size ∧ d.r < w0.heap.size from ⟨H0.mx.ver.m.lt, H0.mx.book.2.lt, H0.mx.map.lt⟩)
  have HL2 := Lib.hid (And.intro ((Lo.of0 (lw := lw) kk).trans (Lo.of_cs cs2)) (And.intro hSu (And.intro hT kk.size)))
  have hs2 := cs2.size
  have HO2 := Lib.hid (And.intro B2 (And.intro z2 (And.intro x2 (And.intro hob2 hoa2))))
  clear H0 B0 hob0 hoa0 y1 y2 kk cs2 hSu hT HLa HBe HH k1
  have q1 := cell_is z2 1 rfl
  have q2 := cell_is z2 2 rfl
  have f1 := unfrozen z2 1
  have f2 := unfrozen z2 2
  go_upto_region 4 with fail
  have z3 : ((w2.setCell ⟨z, 2, none⟩ (.int .i64 0)).setCell ⟨z, 1, none⟩ (.int .i64 0)).heap[z]? = some (.cells #[.int .i64 1, .int .i64 0, .int .i64 0, .int .i64 0, .slice none 0 0] 39 (0, 0)) := heap_set (heap_set z2 2 _ rfl) 1 _ rfl
  have k3 : Chg [z] w2 ((w2.setCell ⟨z, 2, none⟩ (.int .i64 0)).setCell ⟨z, 1, none⟩ (.int .i64 0)) := (Chg.set _ _ _ _).then (Chg.set _ _ _ _)
  generalize (w2.setCell ⟨z, 2, none⟩ (.int .i64 0)).setCell ⟨z, 1, none⟩ (.int .i64 0) = w3 at *
  have B3 : SchB w3 K _ := k3.heap B2 (by simp; omega)
  have x3 := k3.heap x2 (by simp)
  have nz : ∀ {v n xs}, w2.ownsRow lw 83 1 v n xs → ∀ g, v.ownBlock = some g → g ∉ [z] := fun ho g hg hm => by
    rw [List.mem_singleton] at hm
    subst hm
    obtain ⟨-, cur, hh⟩ := own_elem ho hg
    rw [z2] at hh
    cases hh
  have hob3 := own_chgB hob2 k3 (nz hob2)
  have hoa3 := own_chgB hoa2 k3 (nz hoa2)
  have hs3 := k3.size
  clear q1 q2 f1 f2 nz hob2 hoa2
  have c35 : w3.cell? ⟨K, 35, none⟩ = some (.int .i64 ev) := cell_is B3 35 rfl
  go_upto_region 6 with fail
  have k4 : Chg [] w3 (w3.alloc (.cells #[.int .i64 (s.bl + 1), .int .i64 ev, .int .i64 0, .int .i64 0, .int .i64 0, .int .i64 0, .int .i64 0, .int .i64 0, .slice none 0 0, .slice none 0 0] 85)) := Chg.alloc w3 _
  have yb := heap_new w3 (.cells #[.int .i64 (s.bl + 1), .int .i64 ev, .int .i64 0, .int .i64 0, .int .i64 0, .int .i64 0, .int .i64 0, .int .i64 0, .slice none 0 0, .slice none 0 0] 85)
  generalize w3.alloc (.cells #[.int .i64 (s.bl + 1), .int .i64 ev, .int .i64 0, .int .i64 0, .int .i64 0, .int .i64 0, .int .i64 0, .int .i64 0, .slice none 0 0, .slice none 0 0] 85) = w4 at *
  generalize hb : w3.heap.size = Bb at *
  have B4 : SchB w4 K _ := k4.heap B3 (by simp)
  have z4 := k4.heap z3 (by simp)
  have x4 := k4.heap x3 (by simp)
  have hob4 := own_keep hob3 k4.below0
  have hoa4 := own_keep hoa3 k4.below0
  have hs4 := k4.size
  obtain ⟨pb, cb, rfl, hcb⟩ := own_form hob4
  obtain ⟨pa, ca, rfl, hca⟩ := own_form hoa4
  have c3 : w4.cell? ⟨K, 3, none⟩ = some (.slice pb nb cb) := cell_is B4 3 rfl
  have q2 := cell_is z4 2 rfl
  have q3 := cell_is z4 3 rfl
  have f2 := unfrozen z4 2
  have f3 := unfrozen z4 3
  clear c35 z3 x3 hob3 hoa3 B3
  go_upto_region 7 with fail
  have z5 : ((w4.setCell ⟨z, 2, none⟩ (.int .i64 nb)).setCell ⟨z, 3, none⟩ (.int .i64 s.last)).heap[z]? = some (.cells #[.int .i64 1, .int .i64 0, .int .i64 nb, .int .i64 s.last, .slice none 0 0] 39 (0, 0)) := heap_set (heap_set z4 2 _ rfl) 3 _ rfl
  have k5 : Chg [z] w4 ((w4.setCell ⟨z, 2, none⟩ (.int .i64 nb)).setCell ⟨z, 3, none⟩ (.int .i64 s.last)) := (Chg.set _ _ _ _).then (Chg.set _ _ _ _)
  generalize (w4.setCell ⟨z, 2, none⟩ (.int .i64 nb)).setCell ⟨z, 3, none⟩ (.int .i64 s.last) = w5 at *
  have B5 : SchB w5 K _ := k5.heap B4 (by simp; omega)
  have x5 := k5.heap x4 (by simp)
  have b5 := k5.heap yb (by simp; omega)
  have nz : ∀ {v n xs}, w4.ownsRow lw 83 1 v n xs → ∀ g, v.ownBlock = some g → g ∉ [z] := fun ho g hg hm => by
    rw [List.mem_singleton] at hm
    subst hm
    obtain ⟨-, cur, hh⟩ := own_elem ho hg
    rw [z4] at hh
    cases hh
  have hob5 := own_chgB hob4 k5 (nz hob4)
  have hoa5 := own_chgB hoa4 k5 (nz hoa4)
  have hs5 := k5.size
  have c3 : w5.cell? ⟨K, 3, none⟩ = some (.slice pb nb cb) := cell_is B5 3 rfl
  have kp : Chg [] w5 (w5.alloc (.cells #[.pointer (some ⟨Bb, 0, none⟩)] 83)) := Chg.alloc w5 _
  have yp := heap_new w5 (.cells #[.pointer (some ⟨Bb, 0, none⟩)] 83)
  have op := own_keep hob5 kp.below0
  have hlp : lw ≤ (w5.alloc (.cells #[.pointer (some ⟨Bb, 0, none⟩)] 83)).heap.size := by have := kp.size; omega
  have Bp : SchB (w5.alloc (.cells #[.pointer (some ⟨Bb, 0, none⟩)] 83)) K _ := kp.heap B5 (by simp)
  clear q2 q3 f2 f3 nz hob4 hoa4 z4 x4 B4 yb
  go_upto_region 8 with (first | (at_builtin; refine wpList_append_beg rfl (.tmp 48) (.tmp 50) rfl lw w5.heap.size 1 nb (.slice pb nb cb) _ xb rfl op hlp (by omega) rfl (cell_is yp 0 rfl) rfl ?_; intro g7 c7 w7 o7 k7 n7; have B7 : SchB w7 K _ := k7.heap Bp (own_not op Bp (by decide)); have s7 := cell_is B7 3 rfl; have f7 := unfrozen B7 3))
  have ks8 : Chg [K] w7 (w7.setCell ⟨K, 3, none⟩ (.slice (some ⟨g7, 0, none⟩) (nb + 1) c7)) := Chg.set _ _ _ _
  have B8 : SchB (w7.setCell ⟨K, 3, none⟩ (.slice (some ⟨g7, 0, none⟩) (nb + 1) c7)) K (sch d.N d.P o (.slice (some ⟨g7, 0, none⟩) (nb + 1) c7) av q (.slice pa na ca) ev) := heap_set B7 3 _ rfl
  generalize w7.setCell ⟨K, 3, none⟩ (.slice (some ⟨g7, 0, none⟩) (nb + 1) c7) = w8 at *
  have z7 := k7.heap (kp.heap z5 (by simp)) (own_not op (kp.heap z5 (by simp)) (by decide))
  have x7 := k7.heap (kp.heap x5 (by simp)) (own_not op (kp.heap x5 (by simp)) (by decide))
  have b7 := k7.heap (kp.heap b5 (by simp)) (own_not op (kp.heap b5 (by simp)) (by decide))
  have hkK : ∀ {x : Nat} {cs : Array Value} {t : TypeId}, w7.heap[x]? = some (.cells cs t (0, 0)) → t ≠ 72 → x ∉ [K] := fun hx ht hm => by
    rw [List.mem_singleton] at hm
    subst hm
    rw [show w7.heap[_]? = _ from B7] at hx
    cases hx
    exact ht rfl
  have z8 := ks8.heap z7 (hkK z7 (by decide))
  have x8 := ks8.heap x7 (hkK x7 (by decide))
  have b8 := ks8.heap b7 (hkK b7 (by decide))
  have oa7 := own_chgB (own_keep hoa5 kp.below0) k7 (fun g hg hm => hne g (by simpa using hm) hg)
  have nK : ∀ {v n xs}, w7.ownsRow lw 83 1 v n xs → ∀ g, v.ownBlock = some g → g ∉ [K] := fun ho g hg => by
    obtain ⟨-, cur, hh⟩ := own_elem ho hg
    exact hkK hh (by decide)
  have oa8 := own_chgB oa7 ks8 (nK oa7)
  have o8 := own_chgB o7 ks8 (nK o7)
  have hs71 := kp.size
  have hs72 := k7.size
  have hs73 := ks8.size
  have hg7 : ∀ x, (Value.slice (some ⟨g7, 0, none⟩) (nb + 1) c7).ownBlock = some x → (Value.slice pa na ca).ownBlock ≠ some x := fun x hx ha => by
    cases hx
    rcases n7 with h | h
    · exact hne g7 h ha
    · have := (own_elem hoa5 ha).2
      obtain ⟨cur, hh⟩ := this
      have : g7 < w5.heap.size := heap_lt hh
      have h' : g7 = (w5.alloc (.cells #[.pointer (some ⟨Bb, 0, none⟩)] 83)).heap.size := h
      omega
  have k58 : Chg (K :: z :: (z + 1) :: ((Value.slice pb nb cb).ownBlock.toList ++ (Value.slice pa na ca).ownBlock.toList)) w2 w8 :=
    (((((k3.mono (fun x hx _ => by simp at hx; simp [hx])).then (k4.mono (fun x hx _ => by cases hx))).then (k5.mono (fun x hx _ => by simp at hx; simp [hx]))).then (kp.mono (fun x hx _ => by cases hx))).then (k7.mono (fun x hx _ => by simp only [List.mem_cons, List.mem_append]; exact Or.inr (Or.inr (Or.inr (Or.inl hx)))))).then (ks8.mono (fun x hx _ => by simp at hx; simp [hx]))
  have c34 : w8.cell? ⟨K, 34, none⟩ = some (.slice pa na ca) := cell_is B8 34 rfl
  have kq : Chg [] w8 (w8.alloc (.cells #[.pointer (some ⟨Bb, 0, none⟩)] 83)) := Chg.alloc w8 _
  have yq := heap_new w8 (.cells #[.pointer (some ⟨Bb, 0, none⟩)] 83)
  have oq := own_keep oa8 kq.below0
  have hlq : lw ≤ (w8.alloc (.cells #[.pointer (some ⟨Bb, 0, none⟩)] 83)).heap.size := by have := kq.size; omega
  have Bq : SchB (w8.alloc (.cells #[.pointer (some ⟨Bb, 0, none⟩)] 83)) K _ := kq.heap B8 (by simp)
  clear z7 x7 b7 oa7 nK ks8 o7 k7 n7 B7 s7 f7 hkK kp yp op hlp Bp c3 z5 x5 b5 hob5 hoa5 B5 k3 k4 k5
  go_upto_region 9 with (first | (at_builtin; refine wpList_append_beg rfl (.tmp 58) (.tmp 60) rfl lw w8.heap.size 1 na (.slice pa na ca) _ xa rfl oq hlq (by omega) rfl (cell_is yq 0 rfl) rfl ?_; intro g9 c9 w9 o9 k9 n9; have B9 : SchB w9 K _ := k9.heap Bq (own_not oq Bq (by decide)); have s9 := cell_is B9 34 rfl; have f9 := unfrozen B9 34))
  have ks10 : Chg [K] w9 (w9.setCell ⟨K, 34, none⟩ (.slice (some ⟨g9, 0, none⟩) (na + 1) c9)) := Chg.set _ _ _ _
  have B10 : SchB (w9.setCell ⟨K, 34, none⟩ (.slice (some ⟨g9, 0, none⟩) (na + 1) c9)) K (sch d.N d.P o (.slice (some ⟨g7, 0, none⟩) (nb + 1) c7) av q (.slice (some ⟨g9, 0, none⟩) (na + 1) c9) ev) := heap_set B9 34 _ rfl
  generalize w9.setCell ⟨K, 34, none⟩ (.slice (some ⟨g9, 0, none⟩) (na + 1) c9) = w10 at *
  have hkK : ∀ {x : Nat} {cs : Array Value} {t : TypeId}, w9.heap[x]? = some (.cells cs t (0, 0)) → t ≠ 72 → x ∉ [K] := fun hx ht hm => by
    rw [List.mem_singleton] at hm
    subst hm
    rw [show w9.heap[_]? = _ from B9] at hx
    cases hx
    exact ht rfl
  have z9 := k9.heap (kq.heap z8 (by simp)) (own_not oq (kq.heap z8 (by simp)) (by decide))
  have x9 := k9.heap (kq.heap x8 (by simp)) (own_not oq (kq.heap x8 (by simp)) (by decide))
  have b9 := k9.heap (kq.heap b8 (by simp)) (own_not oq (kq.heap b8 (by simp)) (by decide))
  have z10 := ks10.heap z9 (hkK z9 (by decide))
  have x10 := ks10.heap x9 (hkK x9 (by decide))
  have b10 := ks10.heap b9 (hkK b9 (by decide))
  have nK : ∀ {v n xs}, w9.ownsRow lw 83 1 v n xs → ∀ g, v.ownBlock = some g → g ∉ [K] := fun ho g hg => by
    obtain ⟨-, cur, hh⟩ := own_elem ho hg
    exact hkK hh (by decide)
  have ob9 := own_chgB (own_keep o8 kq.below0) k9 (fun g hg hm => hg7 g hg (by simpa using hm))
  have ob10 := own_chgB ob9 ks10 (nK ob9)
  have oa10 := own_chgB o9 ks10 (nK o9)
  have k10 : Chg (K :: z :: (z + 1) :: ((Value.slice pb nb cb).ownBlock.toList ++ (Value.slice pa na ca).ownBlock.toList)) w2 w10 :=
    ((k58.then (kq.mono (fun x hx _ => by cases hx))).then (k9.mono (fun x hx _ => by simp only [List.mem_cons, List.mem_append]; exact Or.inr (Or.inr (Or.inr (Or.inr hx)))))).then (ks10.mono (fun x hx _ => by simp at hx; simp [hx]))
  clear z9 x9 b9 ob9 nK ks10 o9 k9 n9 B9 s9 f9 hkK kq yq oq hlq Bq c34 z8 x8 b8 oa8 o8 B8 k58
  have d0 := cell_is z10 0 rfl
  have d1 := cell_is z10 1 rfl
  have d2 := cell_is z10 2 rfl
  have d3 := cell_is z10 3 rfl
  have d4 := cell_is z10 4 rfl
  have t0 := cell_is x10 0 rfl
  have t1 := cell_is x10 1 rfl
  have t2 := cell_is x10 2 rfl
  have t3 := cell_is x10 3 rfl
  have t4 := cell_is x10 4 rfl
  have e0 := unfrozen x10 0
  have e1 := unfrozen x10 1
  have e2 := unfrozen x10 2
  have e3 := unfrozen x10 3
  have e4 := unfrozen x10 4
  go_wp2_with fail
  obtain ⟨y11, k11⟩ := set5 (.int .i64 1) (.int .i64 0) (.int .i64 nb) (.int .i64 s.last) (.slice none 0 0) x10
  generalize ((((w10.setCell ⟨z + 1, 0, none⟩ (.int .i64 1)).setCell ⟨z + 1, 1, none⟩ (.int .i64 0)).setCell ⟨z + 1, 2, none⟩ (.int .i64 nb)).setCell ⟨z + 1, 3, none⟩ (.int .i64 s.last)).setCell ⟨z + 1, 4, none⟩ (.slice none 0 0) = w11 at *
  have r0 := cell_is y11 0 rfl
  have r1 := cell_is y11 1 rfl
  have r2 := cell_is y11 2 rfl
  have r3 := cell_is y11 3 rfl
  have r4 := cell_is y11 4 rfl
  have B11 := k11.heap B10 (by intro hm; rw [List.mem_singleton] at hm; omega)
  have hzw : z + 1 < w2.heap.size := heap_lt HO2.out.2.2.1
  have b11 := k11.heap b10 (by intro hm; rw [List.mem_singleton] at hm; omega)
  have nx : ∀ {v n xs}, w10.ownsRow lw 83 1 v n xs → ∀ g, v.ownBlock = some g → g ∉ [z + 1] := fun ho g hg hm => by
    rw [List.mem_singleton] at hm
    subst hm
    obtain ⟨-, cur, hh⟩ := own_elem ho hg
    rw [x10] at hh
    cases hh
  have ob11 := own_chgB ob10 k11 (nx ob10)
  have oa11 := own_chgB oa10 k11 (nx oa10)
  have kf := k10.then (k11.mono (fun x hx _ => by simp at hx; simp [hx]))
  have tp : Tp w2 (K :: z :: (z + 1) :: ((Value.slice pb nb cb).ownBlock.toList ++ (Value.slice pa na ca).ownBlock.toList)) [72, 39, 83] := fun x hx => by
    obtain ⟨t1, t2, t3, t4, t5⟩ := HO2.out
    simp only [List.mem_cons, List.mem_append] at hx
    rcases hx with rfl | rfl | rfl | hx | hx
    · exact ⟨_, _, t1, by simp⟩
    · exact ⟨_, _, t2, by simp⟩
    · exact ⟨_, _, t3, by simp⟩
    · obtain ⟨-, cur, hh⟩ := own_elem t4 (show (Value.slice pb nb cb).ownBlock = some x by simpa using hx)
      exact ⟨_, _, hh, by simp⟩
    · obtain ⟨-, cur, hh⟩ := own_elem t5 (show (Value.slice pa na ca).ownBlock = some x by simpa using hx)
      exact ⟨_, _, hh, by simp⟩
  obtain ⟨hLo, hSu, hT, hsz⟩ := HL2.out
  have hSto : Sto w2 lw { d with T := T, W := W, rw := rw, Q := Q, V := V } (begS s T) g := hSu.env
  have hSto2 := hSto.keepA kf (tp.av (by decide)) (tp.map hSto.mx.ver.m) (tp.map hSto.mx.book.2) (tp.map hSto.mx.map)
  have hSu2 := hSu.keepA kf (tp.av (by decide)) (tp.map hSu.buf.2) hSto2
  have hLf : Lo lw w w11 := hLo.then_chg kf (fun x hx hxl => by
    obtain ⟨t1, t2, t3, t4, t5⟩ := HO2.out
    simp only [List.mem_cons, List.mem_append] at hx
    rcases hx with rfl | rfl | rfl | hx | hx
    · exact ⟨hK, fun cs t fr hh => by rw [show w2.heap[_]? = _ from t1] at hh; cases hh; decide⟩
    · omega
    · omega
    · obtain ⟨e1, cur, e2⟩ := own_elem t4 (show (Value.slice pb nb cb).ownBlock = some x by simpa using hx)
      exact ⟨e1, fun cs t fr hh => by rw [e2] at hh; cases hh; decide⟩
    · obtain ⟨e1, cur, e2⟩ := own_elem t5 (show (Value.slice pa na ca).ownBlock = some x by simpa using hx)
      exact ⟨e1, fun cs t fr hh => by rw [e2] at hh; cases hh; decide⟩)
  refine bodyPost_ret (v := .agg #[.int .i64 1, .int .i64 0, .int .i64 nb, .int .i64 s.last, .slice none 0 0]) (by simp [results, Tryz.results49, go_sem, r0, r1, r2, r3, r4]) rfl ?_
  have hlt := HLt.out
  exact ⟨rfl, T, W, rw, Q, V, w0.heap.size, Bb, _, _, hLf, by omega, by omega, by omega, B11, ob11, oa11, b11, hSu2, hlt.1, hlt.2.1, hlt.2.2⟩
end Go.Proofs.YtliicpedddcfiaaGreat
namespace Go.Proofs.YtliicpedddcfiaaGreat
open Go.RowKit Go.Lib

set_option maxRecDepth 100000 in
theorem round251_any (w : World) (i : Int) : Calls Tryz.prog 48 #[.int .i64 i, .int .i64 251] w fun e w' => ∃ m : Nat, m < 251 ∧ e = .returned (.int .i64 m) ∧ w = w' := by
  have h1 : -251 < i.tmod 251 ∧ i.tmod 251 < 251 := by
    have := Int.tmod_lt_of_pos i (b := 251) (by omega)
    have := Int.lt_tmod_of_pos i (b := 251) (by omega)
    omega
  go_enter Tryz.func48, Tryz.ntmps48
  go_wp2_with fail
  · obtain ⟨m, hm⟩ : ∃ m : Nat, i.tmod 251 + 251 = m := ⟨(i.tmod 251 + 251).toNat, by omega⟩
    go_ret
    exact ⟨m, by omega, by rw [← hm]; rfl, rfl⟩
  · obtain ⟨m, hm⟩ : ∃ m : Nat, i.tmod 251 = m := ⟨(i.tmod 251).toNat, by omega⟩
    go_ret
    exact ⟨m, by omega, by rw [← hm]; rfl, rfl⟩
/-- block g is a row of forty bytes. -/
def Fo (w : World) (g : Nat) (r : List UInt8) : Prop := r.length = 40 ∧ w.heap[g]? = some (.cells (Lib.byteCells r).toArray 5 (0, 0))
theorem Fo.bs {w : World} {g : Nat} {r : List UInt8} (h : Fo w g r) : Bs w (some ⟨g, 0, none⟩) r := by
  refine Or.inr ⟨g, 0, rfl, heap_lt h.2, fun j hj => ?_⟩
  rw [Nat.zero_add]
  refine cell_is h.2 j ?_
  simp [Lib.byteCells, hj]
def zeroF : List UInt8 := List.replicate 40 0
theorem wrap251 : ∀ x : Fin 251, IntKind.u8.wrap (x.val : Int) = (x.val : Int) := by decide +kernel
theorem makeF (w : World) : (Instr.makeSlice 34 (.int .i64 40) (.int .i64 40)).run Tryz.prog w = .ok (.slice (some ⟨w.heap.size, 0, none⟩) 40 40) (w.alloc (.cells (Lib.byteCells zeroF).toArray 5)) := by kernel_rfl
set_option maxRecDepth 100000 in
set_option maxHeartbeats 1000000 in
theorem block_ok (w : World) (i : Int) : Calls Tryz.prog 21 #[.int .i64 40, .int .i64 i] w fun e w' => ∃ g r, e = .returned (.slice (some ⟨g, 0, none⟩) 40 40) ∧ Chg [] w w' ∧ w.heap.size ≤ g ∧ Fo w' g r := by
  have g0 := heap_new w (.cells (Lib.byteCells zeroF).toArray 5)
  have k0 : Chg [] w (w.alloc (.cells (Lib.byteCells zeroF).toArray 5)) := Chg.alloc w _
  have hmk := makeF
  have mx : max (40 : Int) 0 = 40 := by decide
  go_enter Tryz.func21, Tryz.ntmps21
  go_wp2_with fail
  have hz1 := heap_lt g0
  generalize w.alloc (.cells (Lib.byteCells zeroF).toArray 5) = w1 at *
  generalize hz : w.heap.size = z at *
  go_loopw [6] (fun i wr => ∃ j : Nat, j ≤ 40 ∧ i = .int .i64 j ∧ Chg [] w wr ∧ ∃ r, Fo wr z r) (fun i _ => 40 - (intOf i).toNat)
  case atStart => exact ⟨0, by omega, rfl, k0, zeroF, rfl, g0⟩
  case round =>
    obtain ⟨j, hj, rfl, kc, r, hr, gr⟩ := hrel
    by_cases hlt : j < 40
    · have n1 : decide ((j : Int) < 40) = true := decide_eq_true (by omega)
      go_wp2_with fail
      refine (round251_any wr _).mono ?_
      rintro e w2 ⟨m, hm, rfl, rfl⟩
      have cj : wr.cell? ⟨z, j, none⟩ = some (.int .u8 (r.getD j 0).toNat) := by
        refine cell_is gr j ?_
        simp [Lib.byteCells, hr, hlt, List.getD]
      have fj := unfrozen gr j
      have hm2 : IntKind.u8.wrap (m : Int) = (m : Int) := wrap251 ⟨m, hm⟩
      have gs := heap_set gr j (.int .u8 (m : Int)) (cs' := (Lib.byteCells (r.set j (UInt8.ofNat m))).toArray) (by
        have : Value.int .u8 (m : Int) = (fun b : UInt8 => Value.int .u8 b.toNat) (UInt8.ofNat m) := by
          show _ = Value.int .u8 ((UInt8.ofNat m).toNat : Int)
          rw [UInt8.toNat_ofNat', Nat.mod_eq_of_lt (by omega)]
        rw [this]
        unfold Lib.byteCells
        rw [List.setIfInBounds_toArray, List.map_set])
      have ks : Chg [] w (wr.setCell ⟨z, j, none⟩ (.int .u8 (m : Int))) := kc.trans (Chg.set _ _ _ _) (fun x hx hlt => by simp at hx; omega)
      have HF := Lib.hid (And.intro ks gs)
      clear ks gs kc
      go_wp2_with fail
      refine ⟨⟨j + 1, by omega, by simp, HF.out.1, _, by simpa using hr, HF.out.2⟩, by simp [intOf]; omega⟩
    · obtain rfl : j = 40 := by omega
      go_wp2_with fail
      go_ret
      exact ⟨z, r, rfl, kc, by omega, hr, gr⟩
set_option maxRecDepth 100000 in
theorem data_ok (w : World) (i : Int) : Calls Tryz.prog 9 #[.int .i64 i] w fun e w' => ∃ g r, e = .returned (.slice (some ⟨g, 0, none⟩) 40 40) ∧ Chg [] w w' ∧ w.heap.size ≤ g ∧ Fo w' g r := by
  go_enter Tryz.func9, Tryz.ntmps9
  go_wp2_with fail
  refine (block_ok w i).mono ?_
  rintro e w1 ⟨g, r, rfl, k, hl, hf⟩
  go_wp2_with fail
  go_ret
  exact ⟨g, r, rfl, k, hl, hf⟩
end Go.Proofs.YtliicpedddcfiaaGreat
namespace Go.Proofs.YtliicpedddcfiaaGreat
open Go.RowKit Go.Lib

theorem heap_new3 (w : World) (o p q : Obj) : (((w.alloc o).alloc p).alloc q).heap[w.heap.size]? = some o ∧ (((w.alloc o).alloc p).alloc q).heap[w.heap.size + 1]? = some p ∧ (((w.alloc o).alloc p).alloc q).heap[w.heap.size + 2]? = some q := by
  obtain ⟨h1, h2⟩ := heap_new2 w o p
  have k : Chg [] ((w.alloc o).alloc p) (((w.alloc o).alloc p).alloc q) := Chg.alloc _ _
  refine ⟨k.heap h1 (by simp), k.heap h2 (by simp), ?_⟩
  have := heap_new ((w.alloc o).alloc p) q
  rwa [show ((w.alloc o).alloc p).heap.size = w.heap.size + 2 from by
    rw [show ((w.alloc o).alloc p).heap = (w.heap.push o).push p from rfl, Array.size_push, Array.size_push]] at this
set_option maxRecDepth 100000 in
set_option maxHeartbeats 4000000 in
theorem ccall_write (w : World) {K Bb base E c cd D n : Nat} {d : Ids} {p : Par} {F : World → Prop} {q : Int → List UInt8} {L : List (Int × Value)} {cs bc : Array Value} {oh oa ol b : Int} {l : List UInt8} (hB : SchB w K cs) (h1 : cs[1]? = some (.pointer (some ⟨d.P, 0, none⟩)))
    (hb : w.heap[Bb]? = some (.cells bc 85 (0, 0))) (hbc : bc[0]? = some (.int .i64 p.h)) (hf : Fr base d p F) (h : Su w base d p F q L n) (e0 : w.cell? ⟨E, 0, none⟩ = some (.int .i64 b)) (e1 : w.cell? ⟨E, 1, none⟩ = some (.slice (some ⟨D, 0, none⟩) 40 cd)) (hbs : Bs w (some ⟨D, 0, none⟩) l) (hl : l.length = 40) (h0 : 0 ≤ b) (h2 : b < 258) (hroom : L.length ≤ 15) :
    Calls Tryz.prog 51 #[.pointer (some ⟨K, 0, none⟩), .pointer (some ⟨K, 2, none⟩), .pointer (some ⟨Bb, 0, none⟩), .agg #[.int .i64 3, .int .i64 oh, .int .i64 oa, .int .i64 ol, .slice (some ⟨E, 0, none⟩) 1 c], .agg #[.int .i64 3, .int .i64 0, .int .i64 oh, .int .i64 0, .slice none 0 0]] w fun e w' =>
      e = .returned (.tuple #[.agg #[.int .i64 3, .int .i64 0, .int .i64 oh, .int .i64 0, .slice none 0 0], .bool true]) ∧ Ow base w w' ∧ ∃ v, Su w' base d p F (putQ q b l) (putL L b v) n := by
  have kk : Chg [] w (((w.alloc (.cells #[.int .i64 3, .int .i64 oh, .int .i64 oa, .int .i64 ol, .slice (some ⟨E, 0, none⟩) 1 c] 33)).alloc (.cells #[.int .i64 3, .int .i64 0, .int .i64 oh, .int .i64 0, .slice none 0 0] 39)).alloc (.cells #[.int .i64 0, .int .i64 0, .int .i64 0, .int .i64 0, .slice none 0 0] 39)) := ((Chg.alloc w _).then_alloc _).then_alloc _
  obtain ⟨y1, y2, y3⟩ := heap_new3 w (.cells #[.int .i64 3, .int .i64 oh, .int .i64 oa, .int .i64 ol, .slice (some ⟨E, 0, none⟩) 1 c] 33) (.cells #[.int .i64 3, .int .i64 0, .int .i64 oh, .int .i64 0, .slice none 0 0] 39) (.cells #[.int .i64 0, .int .i64 0, .int .i64 0, .int .i64 0, .slice none 0 0] 39)
  generalize hw0 : ((w.alloc (.cells #[.int .i64 3, .int .i64 oh, .int .i64 oa, .int .i64 ol, .slice (some ⟨E, 0, none⟩) 1 c] 33)).alloc (.cells #[.int .i64 3, .int .i64 0, .int .i64 oh, .int .i64 0, .slice none 0 0] 39)).alloc (.cells #[.int .i64 0, .int .i64 0, .int .i64 0, .int .i64 0, .slice none 0 0] 39) = w0 at *
  have hz1 := heap_lt y1
  generalize hz : w.heap.size = z at *
  have k1 : w0.cell? ⟨K, 1, none⟩ = some (.pointer (some ⟨d.P, 0, none⟩)) := kk.cell (cell_is hB 1 h1) (by simp)
  have b0 : w0.cell? ⟨Bb, 0, none⟩ = some (.int .i64 p.h) := kk.cell (cell_is hb 0 hbc) (by simp)
  have z0 := cell_is y1 0 rfl
  have z4 := cell_is y1 4 rfl
  have kd : Chg [] w w0.drew := kk.drew
  have HW := Lib.hid (swrite_gen w0.drew (cp := c) hf (h.keep hf kd) (kd.cell e0 (by simp)) (kd.cell e1 (by simp)) (hbs.keep kd.below0) hl h0 h2 hroom)
  have y2d : w0.drew.heap[z + 1]? = _ := y2
  have y3d : w0.drew.heap[z + 2]? = _ := y3
  have HX := Lib.hid (And.intro y2d (And.intro y3d (And.intro kd (show w0.drew.heap.size = w0.heap.size from rfl))))
  have HF := Lib.hid hf
  have HE := Lib.hid h.env
  have hbz : base ≤ z := by have h9 := h.high.1; have : d.Q < w.heap.size := (by obtain ⟨v, m, xs, hv, -⟩ := h.vw; exact heap_lt hv); omega
  clear hB h1 hb hbc hf h e0 e1 hbs y2 y3 y2d y3d kk
  go_enter Tryz.func51, Tryz.ntmps51
  go_wp2_with fail
  go_still_tail 10, (by kernel_rfl)
  change wpList _ _ _ _ _ w0.drew
  generalize w0.drew = w1 at *
  go_wp2_with fail
  refine HW.out.mono ?_
  rintro e w2 ⟨v, rfl, hO, hS⟩
  obtain ⟨y2d, y3d, kd, hsd⟩ := HX.out
  have u2 := hO.heap y2d ⟨by decide, by decide, by decide⟩
  have u3 := hO.heap y3d ⟨by decide, by decide, by decide⟩
  have q1 := cell_is u2 1 rfl
  have g1 := unfrozen u2 1
  have HR := Lib.hid (And.intro hO (And.intro hS (And.intro kd y2d)))
  clear hO hS kd y2d y3d
  go_upto_region 12 with fail
  have v2 : (w2.setCell ⟨z + 1, 1, none⟩ (.int .i64 0)).heap[z + 1]? = some (.cells #[.int .i64 3, .int .i64 0, .int .i64 oh, .int .i64 0, .slice none 0 0] 39 (0, 0)) := heap_set u2 1 _ rfl
  have v3 := heap_set_ne u3 (show z + 2 ≠ z + 1 by omega) 1 (.int .i64 0)
  have ks : Chg [z + 1] w2 (w2.setCell ⟨z + 1, 1, none⟩ (.int .i64 0)) := Chg.set _ _ _ _
  generalize w2.setCell ⟨z + 1, 1, none⟩ (.int .i64 0) = w3 at *
  have d0 := cell_is v2 0 rfl
  have d1 := cell_is v2 1 rfl
  have d2 := cell_is v2 2 rfl
  have d3 := cell_is v2 3 rfl
  have d4 := cell_is v2 4 rfl
  have t0 := cell_is v3 0 rfl
  have t1 := cell_is v3 1 rfl
  have t2 := cell_is v3 2 rfl
  have t3 := cell_is v3 3 rfl
  have t4 := cell_is v3 4 rfl
  have f0 := unfrozen v3 0
  have f1 := unfrozen v3 1
  have f2 := unfrozen v3 2
  have f3 := unfrozen v3 3
  have f4 := unfrozen v3 4
  clear q1 g1
  go_wp2_with fail
  obtain ⟨y11, k11⟩ := set5 (.int .i64 3) (.int .i64 0) (.int .i64 oh) (.int .i64 0) (.slice none 0 0) v3
  generalize ((((w3.setCell ⟨z + 2, 0, none⟩ (.int .i64 3)).setCell ⟨z + 2, 1, none⟩ (.int .i64 0)).setCell ⟨z + 2, 2, none⟩ (.int .i64 oh)).setCell ⟨z + 2, 3, none⟩ (.int .i64 0)).setCell ⟨z + 2, 4, none⟩ (.slice none 0 0) = w4 at *
  have r0 := cell_is y11 0 rfl
  have r1 := cell_is y11 1 rfl
  have r2 := cell_is y11 2 rfl
  have r3 := cell_is y11 3 rfl
  have r4 := cell_is y11 4 rfl
  obtain ⟨hO, hS, kd, y2d⟩ := HR.out
  have kf : Chg [z + 1, z + 2] w2 w4 := (ks.mono (fun x hx _ => by simp at hx; simp [hx])).then (k11.mono (fun x hx _ => by simp at hx; simp [hx]))
  have tp : Tp w2 [z + 1, z + 2] [39] := fun x hx => by
    simp at hx
    rcases hx with rfl | rfl
    · exact ⟨_, _, u2, by simp⟩
    · exact ⟨_, _, u3, by simp⟩
  have hOf : Ow base w w4 := by
    obtain ⟨T, hT1, hT2⟩ := (Ow.of_chg (base := base) kd).trans hO
    refine ⟨T, hT1.trans kf (fun x hx hlt => by simp at hx; omega), hT2⟩
  refine bodyPost_ret (v := .tuple #[.agg #[.int .i64 3, .int .i64 0, .int .i64 oh, .int .i64 0, .slice none 0 0], .bool true]) (by simp [results, Tryz.results51, go_sem, r0, r1, r2, r3, r4]) rfl ?_
  exact ⟨rfl, hOf, v, hS.keepA kf (tp.av (by decide)) (tp.map hS.buf.2) (HF.out.keep w w4 hOf HE.out)⟩
end Go.Proofs.YtliicpedddcfiaaGreat
namespace Go.Proofs.YtliicpedddcfiaaGreat
open Go.RowKit Go.Lib

/-- what a flush of one transaction leaves. -/
def FlushT (w w' : World) (lw : Nat) (d : Ids) (s : Gs) (g : Gd) (k : Nat) (hdl t : Int) (l : List (Int × List UInt8)) : Prop :=
  ∃ z Lv' v6, Sto w' lw d (doneS s z k hdl Lv' l) (doneG g v6 k l) ∧ Cs lw w w' ∧ w'.ownsRow lw 3 1 (.slice (some ⟨z, 0, none⟩) 0 0) 0 [] ∧ w'.heap[d.T]? = some (.cells #[.int .i64 3, .int .i64 k, .int .i64 0, .int .i64 t, .pointer (some ⟨d.W, 0, none⟩), .pointer (some ⟨d.Q, 0, none⟩)] 212 (0, 0))
set_option maxRecDepth 100000 in
set_option maxHeartbeats 4000000 in
theorem sflush_tx (w : World) {lw : Nat} {d : Ids} {s : Gs} {g : Gd} {gq cq : Nat} {hdl : Int} {k : Nat} {t t0 : Int} {L : List (Int × Value)} {D : Int → List UInt8} (h : Sto w lw d s g) (hw : Wtx w d s gq cq hdl k t t0 L D) (hout : s.out = 0) (hT : lw ≤ d.T) (hlw : lw ≤ w.heap.size)
    (hk0 : 1 ≤ k) (hlast : s.lastv < k) (hk1 : k ≤ 1099511627776) (hs : ∀ c, (s.vs c).length + 16 < 1000000) (hn0 : 0 ≤ s.num) (hn1 : s.num ≤ 100000000) (hroom : (g.zs 6).length + L.length + 1 ≤ 96) (hpos : g.pos + L.length + 1 ≤ 96) (ho0 : 0 ≤ g.ops) (ho1 : g.ops ≤ 100000) (hcnt : g.cnt < 4294967296) (hnum : g.num < 1000000000) :
    Calls Tryz.prog 26 #[.pointer (some ⟨d.P, 0, none⟩)] w fun e w' => e = .returned (.int .i64 0) ∧ FlushT w w' lw d s g k hdl t (putsL L D) := by
  have HD := Lib.hid (dead_g w h.store)
  have p5 : w.cell? ⟨d.P, 5, none⟩ = some (.pointer (some ⟨d.M, 0, none⟩)) := cell_is h.store 5 rfl
  have hm := h.mx.mgr
  rw [hw.qv, hout] at hm
  obtain ⟨cs, hq1, hq2⟩ := hw.q
  have hpl : (putsL L D).length = L.length := putsL_length L D
  have HB := Lib.hid (tbatch_one w (k := k) (l := putsL L D) hm (by have := hw.len; omega) hn0 (by omega) (fun w1 k1 => waiting_one w1 (k1.heap hm (by simp)) (k1.cell (cell_is hq1 0 hq2) (by simp)) (h.mx.map.keep k1 (by simp)) hw.tab (k1.heap hw.tx (by simp)) (hw.buf.keep k1 (by simp) (by simp)) (hw.bd.keep k1) hw.bk (by have := hw.len; omega)))
  have HS := Lib.hid h
  have HW := Lib.hid hw
  have HO := Lib.hid hout
  have HQv := Lib.hid hw.qv
  clear h hw hm hout hq1 hq2
  go_enter Tryz.func26, Tryz.ntmps26
  go_wp2_with fail
  refine HD.out.mono ?_
  rintro e w1 ⟨rfl, rfl⟩
  go_wp2_with fail
  refine HB.out.mono ?_
  rintro e w1 ⟨gt, ct, rfl, k1, hm1, ht1⟩
  have hS := HS.out
  have avM : ∀ ts, 184 ∉ ts → Av w [d.M] ts := fun ts h1 => Av.row hS.mx.mgr h1
  have nmM : ∀ {x L}, MapAt w x L → x ∉ [d.M] := fun hm => by simpa using map_cells hm hS.mx.mgr
  have S1 : Sto w1 lw d { s with out := 1 } g :=
    ⟨k1.heap hS.store ((avM [105] (by decide)).ne hS.store (by simp)), k1.heap hS.slot ((avM [159] (by decide)).ne hS.slot (by simp)), hS.text.keep k1 (avM _ (by decide)), hS.dev.keep k1 (avM _ (by decide)),
      hS.mx.chgM k1 (by rw [HQv.out]; exact hm1) rfl rfl rfl rfl rfl rfl rfl, hS.ap, hS.keys, hS.bnd, hS.bndZ, Nat.le_trans hS.slo k1.size, hS.dlo⟩
  have W1 := HW.out.keepA k1 (avM _ (by decide)) (nmM HW.out.buf.2)
  have c1 : Cs lw w w1 := Cs.of_tp (ts := [184]) k1 (fun x hx => by rw [List.mem_singleton] at hx; subst hx; exact ⟨_, _, hS.mx.mgr, by simp⟩) (by decide) (fun x hx => by rw [List.mem_singleton] at hx; subst hx; exact hS.bnd.2.2.2.1)
  have ka : Chg [] w1 (w1.alloc (.cells #[.int .i64 (s.num + 1), .slice (some ⟨gt, 0, none⟩) 1 ct] 134)) := Chg.alloc w1 _
  have A0 := heap_new w1 (.cells #[.int .i64 (s.num + 1), .slice (some ⟨gt, 0, none⟩) 1 ct] 134)
  have S2 := S1.keep ka
  have W2 := W1.keep ka
  have c2 := c1.trans (Cs.of_chg ka)
  have ht2 := ht1.keep ka
  have h6 : 6 < d.Z.length := by have := S2.dev.len; omega
  have hl0 : 0 < (putsL L D).length := by have := HW.out.len0; omega
  have hl16 : (putsL L D).length ≤ 16 := by have := HW.out.len; omega
  have hwr := swrite_log _ (num0 := s.num + 1) S2.store (fun w' k' => load_g w' (k'.heap S2.slot (by simp)) (S2.text.keep k' (Av.nil _ _))) S2.dev ho0 ho1 S2.dlo ht2 hk0 hk1 hcnt (by omega) hl0 hl16 (rise_puts D HW.out.buf.2.nodup) (putsL_in D HW.out.bk) (by rw [hpl]; exact hroom) (by rw [hpl]; exact hpos) h6
  have HWr := Lib.hid hwr
  have q5 : w1.cell? ⟨d.P, 5, none⟩ = some (.pointer (some ⟨d.M, 0, none⟩)) := cell_is S1.store 5 rfl
  have HS2 := Lib.hid S2
  have HW2 := Lib.hid W2
  have HC2 := Lib.hid c2
  have Hpl := Lib.hid hpl
  clear hwr S1 S2 W1 W2 c1 c2 ht1 ht2 hm1 k1 ka hS avM nmM hroom hpos hl0 hl16 HB HD hpl hk0
  go_wp2_with fail
  generalize w1.alloc (.cells #[.int .i64 (s.num + 1), .slice (some ⟨gt, 0, none⟩) 1 ct] 134) = w2 at *
  refine HWr.out.mono ?_
  rintro e w3 ⟨rfl, k3, hP3, v6, hd3⟩
  have S2 := HS2.out
  have tp := S2.wtp.1
  have S3x : Mx w3 d.M d.X d.rx d.B d.rb d.r { s with out := 1 } := S2.mx.keepA k3 (tp.av (by decide)) (tp.map S2.mx.ver.m) (tp.map S2.mx.book.2) (tp.map S2.mx.map)
  have slot3 := k3.heap S2.slot ((tp.av (ts' := [159]) (by decide)).ne S2.slot (by simp))
  have text3 := S2.text.keep k3 (tp.av (by decide))
  have W3 := HW2.out.keepA k3 (tp.av (by decide)) (tp.map HW2.out.buf.2)
  have c3 := HC2.out.trans (Cs.of_tp k3 tp (by decide) S2.wtp.2)
  obtain ⟨cs, hq1, hq2⟩ := W3.q
  have hdn := tdone_ok w3 S3x (show ({ s with out := 1 } : Gs).qv = _ from W3.qv) W3.cq rfl (cell_is hq1 0 hq2) W3.tab W3.tx W3.buf W3.bd W3.bk W3.len0 W3.len S2.ap S2.keys (Nat.le_trans S2.slo k3.size) hlast (by omega) hs W3.book hn0 (by show s.num ≤ _; omega)
  have HDn := Lib.hid hdn
  have r5 : w3.cell? ⟨d.P, 5, none⟩ = some (.pointer (some ⟨d.M, 0, none⟩)) := cell_is hP3 5 rfl
  have HS3 := Lib.hid (And.intro S3x (And.intro slot3 (And.intro text3 (And.intro hP3 hd3))))
  have HW3 := Lib.hid W3
  have HC3 := Lib.hid c3
  clear hdn S2 tp S3x slot3 text3 hP3 hd3 W3 c3 hq1 hq2 k3 HWr HC2 HW2 q5
  go_wp2_with fail
  refine HDn.out.mono ?_
  rintro e w4 ⟨rfl, z, ⟨⟨Lv', hx4, hap4, hk4⟩, hcd, htx4⟩, o4⟩
  have hF : FlushT w w4 lw d s g k hdl t (putsL L D) := by
    obtain ⟨hx3, slot3, text3, hP3, hd3⟩ := HS3.out
    have c4 := HC3.out.trans (Cs.of_cd hcd hx3.mgr HW3.out.tx hx3.ver.x hx3.book.2 hx3.ver.m (by
      have := HS.out.bnd
      exact ⟨this.2.2.2.2.2.2.2.2.2.1, this.2.2.2.1, hT, this.2.2.2.2.2.2.2.1, this.2.2.2.2.1, this.2.2.2.2.2.1⟩))
    obtain ⟨U, kU, hU⟩ := hcd
    have av : ∀ ts : List Nat, (∀ t ∈ ts, t ∉ [184, 212, 237, 247]) → Av w3 U ts := fun ts hts => Cd.av hU hx3.mgr HW3.out.tx hx3.ver.x hx3.book.2 hx3.ver.m hts
    refine ⟨z, Lv', v6, ⟨?_, kU.heap slot3 ((av [159] (by decide)).ne slot3 (by simp)), text3.keep kU (av _ (by decide)), hd3.keep kU (av _ (by decide)), hx4, hap4, hk4, HS.out.bnd, HS.out.bndZ, Nat.le_trans HS.out.slo c4.size, HS.out.dlo⟩, c4, ownsRow_low o4 (Nat.le_trans hlw HC3.out.size), htx4⟩
    exact kU.heap hP3 ((av [105] (by decide)).ne hP3 (by simp))
  have HF := Lib.hid hF
  clear hF hx4 hap4 hk4 hcd o4 htx4 HDn HS3 HW3 HC3 r5
  go_wp2_with fail
  go_ret
  exact ⟨rfl, HF.out⟩
end Go.Proofs.YtliicpedddcfiaaGreat
namespace Go.Proofs.YtliicpedddcfiaaGreat
open Go.RowKit Go.Lib

/-- what a commit that waits leaves. -/
def CAsk (w w' : World) (lw : Nat) (d : Ids) (s : Gs) (g : Gd) (p : Par) (L : List (Int × Value)) (q : Int → List UInt8) (k : Nat) : Prop :=
  ∃ gq cq, Sto w' lw d (comS s gq cq) g ∧ Wtx w' d (comS s gq cq) gq cq p.h k p.t p.t L q ∧ Cs lw w w'
set_option maxRecDepth 100000 in
set_option maxHeartbeats 4000000 in
theorem commit_ask (w : World) {K Bb lw base n k : Nat} {d : Ids} {s : Gs} {g : Gd} {p : Par} {q : Int → List UInt8} {L : List (Int × Value)} {cs bc : Array Value} {oh : Int} (hB : SchB w K cs) (h1 : cs[1]? = some (.pointer (some ⟨d.P, 0, none⟩))) (h5 : cs[5]? = some (.bool false))
    (hb : w.heap[Bb]? = some (.cells bc 85 (0, 0))) (hbc : bc[0]? = some (.int .i64 p.h)) (hf : Fr base d p (StoF lw d s g)) (h : Su w base d p (StoF lw d s g) q L n) (htab : getL s.Lr p.h = some (.pointer (some ⟨d.T, 0, none⟩))) (hlw : lw ≤ w.heap.size) (_hTl : lw ≤ d.T)
    (hC : ∀ wx, Chg [] w wx → Calls Tryz.prog 131 #[.pointer (some ⟨d.P, 0, none⟩), .int .i64 p.h] wx fun e w' => e = .returned (.int .i64 0) ∧ ComR wx w' lw d s g p L q k) :
    Calls Tryz.prog 92 #[.pointer (some ⟨K, 0, none⟩), .pointer (some ⟨K, 2, none⟩), .pointer (some ⟨Bb, 0, none⟩), .agg #[.int .i64 4, .int .i64 0, .int .i64 oh, .int .i64 0, .slice none 0 0]] w fun e w' =>
      e = .returned (.tuple #[.agg #[.int .i64 0, .int .i64 0, .int .i64 0, .int .i64 0, .slice none 0 0], .bool false]) ∧ CAsk w w' lw d s g p L q k := by
  have kk : Chg [] w ((w.alloc (.cells #[.int .i64 4, .int .i64 0, .int .i64 oh, .int .i64 0, .slice none 0 0] 39)).alloc (.cells #[.int .i64 0, .int .i64 0, .int .i64 0, .int .i64 0, .slice none 0 0] 39)) := (Chg.alloc w _).then_alloc _
  obtain ⟨y1, y2⟩ := heap_new2 w (.cells #[.int .i64 4, .int .i64 0, .int .i64 oh, .int .i64 0, .slice none 0 0] 39) (.cells #[.int .i64 0, .int .i64 0, .int .i64 0, .int .i64 0, .slice none 0 0] 39)
  generalize hw0 : (w.alloc (.cells #[.int .i64 4, .int .i64 0, .int .i64 oh, .int .i64 0, .slice none 0 0] 39)).alloc (.cells #[.int .i64 0, .int .i64 0, .int .i64 0, .int .i64 0, .slice none 0 0] 39) = w0 at *
  have hz1 := heap_lt y1
  generalize hz : w.heap.size = z at *
  have k1 : w0.cell? ⟨K, 1, none⟩ = some (.pointer (some ⟨d.P, 0, none⟩)) := kk.cell (cell_is hB 1 h1) (by simp)
  have k5 : w0.cell? ⟨K, 5, none⟩ = some (.bool false) := kk.cell (cell_is hB 5 h5) (by simp)
  have b0 : w0.cell? ⟨Bb, 0, none⟩ = some (.int .i64 p.h) := kk.cell (cell_is hb 0 hbc) (by simp)
  have h2 := h.keep hf kk
  have hS2 : Sto w0 lw d s g := h2.env
  have hN := hf.need w0 h2.env
  have HR1 := Lib.hid (result_ok w0.drew (P := d.P) (M := d.M) (X := d.X) hN.p5 hN.m0 hN.m2 hS2.mx.map htab (cell_is h2.tx 0 rfl) (cell_is h2.tx 1 rfl) (cell_is h2.tx 2 rfl))
  have y1d : w0.drew.heap[z]? = _ := y1
  have y2d : w0.drew.heap[z + 1]? = _ := y2
  have B0 : w0.drew.heap[K]? = _ := kk.heap hB (by simp)
  have b0d : w0.drew.heap[Bb]? = _ := kk.heap hb (by simp)
  have HX := Lib.hid (And.intro y1d (And.intro y2d (And.intro B0 (And.intro b0d (And.intro kk.drew (show w0.drew.heap.size = w0.heap.size from rfl))))))
  have HCo := Lib.hid hC
  have h1' := Lib.hid h1
  have h2' := Lib.hid hbc
  clear hB h1 h5 hb hbc hf h h2 hS2 hN hC y1 y2 y1d y2d B0 b0d kk
  go_enter Tryz.func92, Tryz.ntmps92
  go_wp2_with fail
  go_region_held3 (fun wx => wx.cell? ⟨K, 1, none⟩ = some (.pointer (some ⟨d.P, 0, none⟩)) ∧ wx.cell? ⟨Bb, 0, none⟩ = some (.int .i64 p.h))
    (first | (exact ⟨k1, b0⟩) | (exact ⟨k3.cell k1 (by simp), k3.cell b0 (by simp)⟩))
    (first | (go_at_call 130; refine HR1.out.mono ?_; rintro e w3 ⟨rfl, k3⟩))
  obtain ⟨y1d, y2d, B0, b0d, kd, hsd⟩ := HX.out
  have kk3 := kd.then k3
  have y13 := k3.heap y1d (by simp)
  have y23 := k3.heap y2d (by simp)
  have B3 := k3.heap B0 (by simp)
  have b3 := k3.heap b0d (by simp)
  have c1 : w3.cell? ⟨K, 1, none⟩ = some (.pointer (some ⟨d.P, 0, none⟩)) := cell_is B3 1 h1'.out
  have c2 : w3.cell? ⟨Bb, 0, none⟩ = some (.int .i64 p.h) := cell_is b3 0 h2'.out
  have HC3 := Lib.hid (HCo.out w3.drew kk3.drew)
  have y13d : w3.drew.heap[z]? = _ := y13
  have y23d : w3.drew.heap[z + 1]? = _ := y23
  have B3d : w3.drew.heap[K]? = _ := B3
  have b3d : w3.drew.heap[Bb]? = _ := b3
  have HX3 := Lib.hid (And.intro y13d (And.intro y23d (And.intro B3d (And.intro b3d kk3.drew))))
  clear y1d y2d B0 b0d kd kk3 y13 y23 B3 b3 y13d y23d B3d b3d k1 k5 b0 HX HR1 k3
  go_wp2_with fail
  go_still_tail 8, (by kernel_rfl)
  change wpList _ _ _ _ _ w3.drew
  generalize w3.drew = w4 at *
  go_wp2_with fail
  refine HC3.out.mono ?_
  rintro e w5 ⟨rfl, gq, cq, hS5, hW5, cs5⟩
  obtain ⟨y14, y24, B4, b4, kk4⟩ := HX3.out
  have y15 := cs5.heap y14 (by decide)
  have y25 := cs5.heap y24 (by decide)
  have B5 := cs5.heap B4 (by decide)
  have b5 := cs5.heap b4 (by decide)
  have q1 := cell_is y15 1 rfl
  have g1 := unfrozen y15 1
  have HS5 := Lib.hid (And.intro hS5 (And.intro hW5 ((Cs.of_chg (lw := lw) kk4).trans cs5)))
  clear hS5 hW5 cs5 kk4 y14 y24 B4 b4 HX3 HC3 c1 c2
  go_upto_region 4 with fail
  have v1 : (w5.setCell ⟨z, 1, none⟩ (.int .i64 0)).heap[z]? = some (.cells #[.int .i64 4, .int .i64 0, .int .i64 oh, .int .i64 0, .slice none 0 0] 39 (0, 0)) := heap_set y15 1 _ rfl
  have ks : Chg [z] w5 (w5.setCell ⟨z, 1, none⟩ (.int .i64 0)) := Chg.set _ _ _ _
  generalize w5.setCell ⟨z, 1, none⟩ (.int .i64 0) = w6 at *
  have tpz : Tp w5 [z] [39] := fun x hx => by
    rw [List.mem_singleton] at hx
    subst hx
    exact ⟨_, _, y15, by simp⟩
  obtain ⟨hS5, hW5, hL5⟩ := HS5.out
  have hS6 : Sto w6 lw d (comS s gq cq) g := hS5.keepA ks (tpz.av (by decide)) (tpz.map hS5.mx.ver.m) (tpz.map hS5.mx.book.2) (tpz.map hS5.mx.map)
  have hW6 := hW5.keepA ks (tpz.av (by decide)) (tpz.map hW5.buf.2)
  have hL6 : Cs lw w w6 := hL5.new_chg ks (fun x hx => by rw [List.mem_singleton] at hx; omega)
  have hzK : ∀ {x : Nat} {cs : Array Value} {t : TypeId}, w5.heap[x]? = some (.cells cs t (0, 0)) → t ≠ 39 → x ∉ [z] := fun hx ht hm => by
    rw [List.mem_singleton] at hm
    subst hm
    rw [y15] at hx
    cases hx
    exact ht rfl
  have B6 := ks.heap B5 (hzK B5 (by decide))
  have b6 := ks.heap b5 (hzK b5 (by decide))
  have y26 := ks.heap y25 (by intro hm; rw [List.mem_singleton] at hm; omega)
  have c0 := cell_is v1 1 rfl
  have c1 : w6.cell? ⟨K, 1, none⟩ = some (.pointer (some ⟨d.P, 0, none⟩)) := cell_is B6 1 h1'.out
  have c2 : w6.cell? ⟨Bb, 0, none⟩ = some (.int .i64 p.h) := cell_is b6 0 h2'.out
  have kd6 : Chg [] w6 w6.drew := (Chg.refl [] w6).drew
  have hS6d := hS6.keep kd6
  have HR2 := Lib.hid (result_ok w6.drew (P := d.P) (M := d.M) (X := d.X) (cell_is hS6d.store 5 rfl) (cell_is hS6d.mx.mgr 0 rfl) (cell_is hS6d.mx.mgr 2 rfl) hS6d.mx.map hW6.tab (cell_is (show w6.drew.heap[d.T]? = _ from hW6.tx) 0 rfl) (cell_is (show w6.drew.heap[d.T]? = _ from hW6.tx) 1 rfl) (cell_is (show w6.drew.heap[d.T]? = _ from hW6.tx) 2 rfl))
  have y26d : w6.drew.heap[z + 1]? = _ := y26
  have HX6 := Lib.hid (And.intro y26d (And.intro hS6d (And.intro (hW6.keep kd6) (hL6.trans (Cs.of_chg kd6)))))
  clear hS5 hW5 hL5 hS6 hW6 hL6 hzK B6 b6 y26 kd6 hS6d HS5 tpz ks v1 y15 y25 B5 b5 q1 g1 y26d
  go_wp2_with fail
  go_region_held3 (fun wx => wx.cell? ⟨K, 1, none⟩ = some (.pointer (some ⟨d.P, 0, none⟩)) ∧ wx.cell? ⟨Bb, 0, none⟩ = some (.int .i64 p.h))
    (first | (exact ⟨c1, c2⟩) | (exact ⟨k7.cell c1 (by simp), k7.cell c2 (by simp)⟩))
    (first | (go_at_call 130; refine HR2.out.mono ?_; rintro e w7 ⟨rfl, k7⟩))
  obtain ⟨y26, hS6, hW6, hL6⟩ := HX6.out
  have y27 := k7.heap y26 (by simp)
  have t0 := cell_is y27 0 rfl
  have t1 := cell_is y27 1 rfl
  have t2 := cell_is y27 2 rfl
  have t3 := cell_is y27 3 rfl
  have t4 := cell_is y27 4 rfl
  have f0 := unfrozen y27 0
  have f1 := unfrozen y27 1
  have f2 := unfrozen y27 2
  have f3 := unfrozen y27 3
  have f4 := unfrozen y27 4
  have HX7 := Lib.hid (And.intro (hS6.keep k7) (And.intro (hW6.keep k7) (hL6.trans (Cs.of_chg k7))))
  clear y26 hS6 hW6 hL6 c0 c1 c2 HX6 HR2 k7
  go_wp2_with fail
  obtain ⟨y11, k11⟩ := set5 (.int .i64 0) (.int .i64 0) (.int .i64 0) (.int .i64 0) (.slice none 0 0) y27
  generalize ((((w7.setCell ⟨z + 1, 0, none⟩ (.int .i64 0)).setCell ⟨z + 1, 1, none⟩ (.int .i64 0)).setCell ⟨z + 1, 2, none⟩ (.int .i64 0)).setCell ⟨z + 1, 3, none⟩ (.int .i64 0)).setCell ⟨z + 1, 4, none⟩ (.slice none 0 0) = w8 at *
  have r0 := cell_is y11 0 rfl
  have r1 := cell_is y11 1 rfl
  have r2 := cell_is y11 2 rfl
  have r3 := cell_is y11 3 rfl
  have r4 := cell_is y11 4 rfl
  obtain ⟨hS7, hW7, hL7⟩ := HX7.out
  have tp : Tp w7 [z + 1] [39] := fun x hx => by
    rw [List.mem_singleton] at hx
    subst hx
    exact ⟨_, _, y27, by simp⟩
  refine bodyPost_ret (v := .tuple #[.agg #[.int .i64 0, .int .i64 0, .int .i64 0, .int .i64 0, .slice none 0 0], .bool false]) (by simp [results, Tryz.results92, go_sem, r0, r1, r2, r3, r4]) rfl ?_
  exact ⟨rfl, gq, cq, hS7.keepA k11 (tp.av (by decide)) (tp.map hS7.mx.ver.m) (tp.map hS7.mx.book.2) (tp.map hS7.mx.map), hW7.keepA k11 (tp.av (by decide)) (tp.map hW7.buf.2), hL7.new_chg k11 (fun x hx => by rw [List.mem_singleton] at hx; omega)⟩
/-- what a commit that is told leaves. -/
def CTold (w w' : World) (lw Bb : Nat) (d : Ids) (s : Gs) (g : Gd) (bc : Array Value) (ev : Int) : Prop :=
  Sto w' lw d s g ∧ Chg [Bb] w w' ∧ w'.heap[Bb]? = some (.cells (bc.setIfInBounds 2 (.int .i64 ev)) 85 (0, 0))
set_option maxRecDepth 100000 in
set_option maxHeartbeats 4000000 in
theorem commit_told (w : World) {K Bb lw : Nat} {d : Ids} {s : Gs} {g : Gd} {cs bc : Array Value} {oh h k ev x2 : Int} (hB : SchB w K cs) (h1 : cs[1]? = some (.pointer (some ⟨d.P, 0, none⟩))) (h5 : cs[5]? = some (.bool true)) (h35 : cs[35]? = some (.int .i64 ev))
    (hb : w.heap[Bb]? = some (.cells bc 85 (0, 0))) (hbc : bc[0]? = some (.int .i64 h)) (hb2 : bc[2]? = some (.int .i64 x2)) (hS : Sto w lw d s g) (htab : getL s.Lr h = some (.pointer (some ⟨d.T, 0, none⟩))) (t0 : w.cell? ⟨d.T, 0, none⟩ = some (.int .i64 3)) (t1 : w.cell? ⟨d.T, 1, none⟩ = some (.int .i64 k)) (t2 : w.cell? ⟨d.T, 2, none⟩ = some (.int .i64 0)) :
    Calls Tryz.prog 92 #[.pointer (some ⟨K, 0, none⟩), .pointer (some ⟨K, 2, none⟩), .pointer (some ⟨Bb, 0, none⟩), .agg #[.int .i64 4, .int .i64 0, .int .i64 oh, .int .i64 0, .slice none 0 0]] w fun e w' =>
      e = .returned (.tuple #[.agg #[.int .i64 4, .int .i64 0, .int .i64 oh, .int .i64 k, .slice none 0 0], .bool true]) ∧ CTold w w' lw Bb d s g bc ev := by
  have kk : Chg [] w ((w.alloc (.cells #[.int .i64 4, .int .i64 0, .int .i64 oh, .int .i64 0, .slice none 0 0] 39)).alloc (.cells #[.int .i64 0, .int .i64 0, .int .i64 0, .int .i64 0, .slice none 0 0] 39)) := (Chg.alloc w _).then_alloc _
  obtain ⟨y1, y2⟩ := heap_new2 w (.cells #[.int .i64 4, .int .i64 0, .int .i64 oh, .int .i64 0, .slice none 0 0] 39) (.cells #[.int .i64 0, .int .i64 0, .int .i64 0, .int .i64 0, .slice none 0 0] 39)
  generalize hw0 : (w.alloc (.cells #[.int .i64 4, .int .i64 0, .int .i64 oh, .int .i64 0, .slice none 0 0] 39)).alloc (.cells #[.int .i64 0, .int .i64 0, .int .i64 0, .int .i64 0, .slice none 0 0] 39) = w0 at *
  have hz1 := heap_lt y1
  generalize hz : w.heap.size = z at *
  have k1 : w0.cell? ⟨K, 1, none⟩ = some (.pointer (some ⟨d.P, 0, none⟩)) := kk.cell (cell_is hB 1 h1) (by simp)
  have k5 : w0.cell? ⟨K, 5, none⟩ = some (.bool true) := kk.cell (cell_is hB 5 h5) (by simp)
  have b0 : w0.cell? ⟨Bb, 0, none⟩ = some (.int .i64 h) := kk.cell (cell_is hb 0 hbc) (by simp)
  have kd := kk.drew
  have hSd := hS.keep kd
  have HR := Lib.hid (result_ok w0.drew (P := d.P) (M := d.M) (X := d.X) (cell_is hSd.store 5 rfl) (cell_is hSd.mx.mgr 0 rfl) (cell_is hSd.mx.mgr 2 rfl) hSd.mx.map htab (kd.cell t0 (by simp)) (kd.cell t1 (by simp)) (kd.cell t2 (by simp)))
  have y1d : w0.drew.heap[z]? = _ := y1
  have y2d : w0.drew.heap[z + 1]? = _ := y2
  have hKz : K < z ∧ Bb < z := by rw [← hz]; exact ⟨heap_lt hB, heap_lt hb⟩
  have hKB : K ≠ Bb := heap_ne hB hb (by simp)
  have HX := Lib.hid (And.intro y1d (And.intro y2d (And.intro (kd.heap hB (by simp)) (And.intro (kd.heap hb (by simp)) (And.intro kd hSd)))))
  have H1 := Lib.hid (And.intro h1 (And.intro h35 (And.intro hbc hb2)))
  clear hB h1 h5 h35 hb hbc hb2 hS t0 t1 t2 htab y1 y2 y1d y2d kk kd hSd
  go_enter Tryz.func92, Tryz.ntmps92
  go_wp2_with fail
  go_region_held3 (fun wx => wx.cell? ⟨K, 1, none⟩ = some (.pointer (some ⟨d.P, 0, none⟩)) ∧ wx.cell? ⟨Bb, 0, none⟩ = some (.int .i64 h))
    (first | (exact ⟨k1, b0⟩) | (exact ⟨k3.cell k1 (by simp), k3.cell b0 (by simp)⟩))
    (first | (go_at_call 130; refine HR.out.mono ?_; rintro e w3 ⟨rfl, k3⟩))
  obtain ⟨y1d, y2d, B0, b0d, kd, hSd⟩ := HX.out
  have y13 := k3.heap y1d (by simp)
  have y23 := k3.heap y2d (by simp)
  have B3 := k3.heap B0 (by simp)
  have b3 := k3.heap b0d (by simp)
  have q3 := cell_is y13 3 rfl
  have g3 := unfrozen y13 3
  have HY := Lib.hid (And.intro (hSd.keep k3) (kd.then k3))
  clear y1d y2d B0 b0d kd hSd HX HR k1 k5 b0 k3
  go_upto_region 16 with fail
  have v1 : (w3.setCell ⟨z, 3, none⟩ (.int .i64 k)).heap[z]? = some (.cells #[.int .i64 4, .int .i64 0, .int .i64 oh, .int .i64 k, .slice none 0 0] 39 (0, 0)) := heap_set y13 3 _ rfl
  have ks : Chg [z] w3 (w3.setCell ⟨z, 3, none⟩ (.int .i64 k)) := Chg.set _ _ _ _
  generalize w3.setCell ⟨z, 3, none⟩ (.int .i64 k) = w4 at *
  have y24 := ks.heap y23 (by simp)
  have B4 := ks.heap B3 (by simp; omega)
  have b4 := ks.heap b3 (by simp; omega)
  have c35 := cell_is B4 35 H1.out.2.1
  have c2 := cell_is b4 2 H1.out.2.2.2
  have f2 := unfrozen b4 2
  clear q3 g3
  go_upto_region 17 with fail
  have b5 : (w4.setCell ⟨Bb, 2, none⟩ (.int .i64 ev)).heap[Bb]? = some (.cells (bc.setIfInBounds 2 (.int .i64 ev)) 85 (0, 0)) := heap_set b4 2 _ rfl
  have k5 : Chg [Bb] w4 (w4.setCell ⟨Bb, 2, none⟩ (.int .i64 ev)) := Chg.set _ _ _ _
  generalize w4.setCell ⟨Bb, 2, none⟩ (.int .i64 ev) = w5 at *
  have v5 := k5.heap v1 (by simp; omega)
  have y25 := k5.heap y24 (by simp; omega)
  have d0 := cell_is v5 0 rfl
  have d1 := cell_is v5 1 rfl
  have d2 := cell_is v5 2 rfl
  have d3 := cell_is v5 3 rfl
  have d4 := cell_is v5 4 rfl
  have t0 := cell_is y25 0 rfl
  have t1 := cell_is y25 1 rfl
  have t2 := cell_is y25 2 rfl
  have t3 := cell_is y25 3 rfl
  have t4 := cell_is y25 4 rfl
  have e0 := unfrozen y25 0
  have e1 := unfrozen y25 1
  have e2 := unfrozen y25 2
  have e3 := unfrozen y25 3
  have e4 := unfrozen y25 4
  clear c35 c2 f2
  go_wp2_with fail
  obtain ⟨y11, k11⟩ := set5 (.int .i64 4) (.int .i64 0) (.int .i64 oh) (.int .i64 k) (.slice none 0 0) y25
  generalize ((((w5.setCell ⟨z + 1, 0, none⟩ (.int .i64 4)).setCell ⟨z + 1, 1, none⟩ (.int .i64 0)).setCell ⟨z + 1, 2, none⟩ (.int .i64 oh)).setCell ⟨z + 1, 3, none⟩ (.int .i64 k)).setCell ⟨z + 1, 4, none⟩ (.slice none 0 0) = w6 at *
  have r0 := cell_is y11 0 rfl
  have r1 := cell_is y11 1 rfl
  have r2 := cell_is y11 2 rfl
  have r3 := cell_is y11 3 rfl
  have r4 := cell_is y11 4 rfl
  obtain ⟨hS3, k3⟩ := HY.out
  have kf : Chg [Bb, z, z + 1] w3 w6 := ((ks.mono (fun x hx _ => by simp at hx; simp [hx])).then (k5.mono (fun x hx _ => by simp at hx; simp [hx]))).then (k11.mono (fun x hx _ => by simp at hx; simp [hx]))
  have tp : Tp w3 [Bb, z, z + 1] [85, 39] := fun x hx => by
    simp at hx
    rcases hx with rfl | rfl | rfl
    · exact ⟨_, _, b3, by simp⟩
    · exact ⟨_, _, y13, by simp⟩
    · exact ⟨_, _, y23, by simp⟩
  refine bodyPost_ret (v := .tuple #[.agg #[.int .i64 4, .int .i64 0, .int .i64 oh, .int .i64 k, .slice none 0 0], .bool true]) (by simp [results, Tryz.results92, go_sem, r0, r1, r2, r3, r4]) rfl ?_
  exact ⟨rfl, hS3.keepA kf (tp.av (by decide)) (tp.map hS3.mx.ver.m) (tp.map hS3.mx.book.2) (tp.map hS3.mx.map), (k3.mono (T := [Bb]) (fun x hx _ => by cases hx)).trans kf (fun x hx hlt => by simp at hx; simp; omega), k11.heap b5 (by simp; omega)⟩
end Go.Proofs.YtliicpedddcfiaaGreat
namespace Go.Proofs.YtliicpedddcfiaaGreat
open Go.RowKit Go.Lib

/-- answers that stand in memory are kept. -/
def K66 (a b : World) : Prop := ∀ (x : Nat) (cs : Array Value), a.heap[x]? = some (Obj.cells cs 39 (0, 0)) → b.heap[x]? = some (Obj.cells cs 39 (0, 0))
theorem K66.of0 {a b : World} (h : Chg [] a b) : K66 a b := fun _ _ hx => h.heap hx (by simp)
theorem K66.trans {a b c : World} (h : K66 a b) (k : K66 b c) : K66 a c := fun x cs hx => k x cs (h x cs hx)
theorem K66.new {a b c : World} {S : List Nat} (h : K66 a b) (k : Chg S b c) (hS : ∀ x ∈ S, a.heap.size ≤ x) : K66 a c := fun x cs hx =>
  k.heap (h x cs hx) (fun hm => by have := hS x hm; have := heap_lt hx; omega)
/-- what a schedule and its answers do not touch. -/
structure Cl (lw : Nat) (P : World → Prop) : Prop where
  keep : ∀ a b S, P a → Chg S a b → Tp a S [72, 39] → (∀ x ∈ S, lw ≤ x) → P b
theorem Cl.box {lw : Nat} {P : World → Prop} (h : Cl lw P) {a b : World} {S : List Nat} (hp : P a) (hc : Chg S a b) (ht : Tp a S [39]) (hl : ∀ x ∈ S, lw ≤ x) : P b :=
  h.keep a b S hp hc (fun x hx => by obtain ⟨cs, t, h1, h2⟩ := ht x hx; exact ⟨cs, t, h1, by simp at h2; simp [h2]⟩) hl
/-- what an op's call hands back. -/
def DoR (w : World) (K : Nat) (P : Array Value → World → Prop) (x0 x1 x2 x3 : Int) (fl : Bool) (e : Ending) (w' : World) : Prop :=
  e = .returned (.tuple #[.agg #[.int .i64 x0, .int .i64 x1, .int .i64 x2, .int .i64 x3, .slice none 0 0], .bool fl]) ∧ ∃ cs, P cs w' ∧ SchB w' K cs ∧ K66 w w'
set_option maxRecDepth 100000 in
set_option maxHeartbeats 4000000 in
theorem ccall_c (w : World) {K Bb lw : Nat} {P : Array Value → World → Prop} {oh oa ol x0 x1 x2 x3 : Int} {pp : Option Addr} {pn pc : Nat} {fl : Bool} (hlw : lw ≤ w.heap.size) (hP : ∀ cs, Cl lw (P cs))
    (HC : ∀ wx, Chg [] w wx → Calls Tryz.prog 92 #[.pointer (some ⟨K, 0, none⟩), .pointer (some ⟨K, 2, none⟩), .pointer (some ⟨Bb, 0, none⟩), .agg #[.int .i64 4, .int .i64 0, .int .i64 oh, .int .i64 0, .slice none 0 0]] wx (DoR wx K P x0 x1 x2 x3 fl)) :
    Calls Tryz.prog 51 #[.pointer (some ⟨K, 0, none⟩), .pointer (some ⟨K, 2, none⟩), .pointer (some ⟨Bb, 0, none⟩), .agg #[.int .i64 4, .int .i64 oh, .int .i64 oa, .int .i64 ol, .slice pp pn pc], .agg #[.int .i64 4, .int .i64 0, .int .i64 oh, .int .i64 0, .slice none 0 0]] w (DoR w K P x0 x1 x2 x3 fl) := by
  have kk : Chg [] w (((w.alloc (.cells #[.int .i64 4, .int .i64 oh, .int .i64 oa, .int .i64 ol, .slice pp pn pc] 33)).alloc (.cells #[.int .i64 4, .int .i64 0, .int .i64 oh, .int .i64 0, .slice none 0 0] 39)).alloc (.cells #[.int .i64 0, .int .i64 0, .int .i64 0, .int .i64 0, .slice none 0 0] 39)) := ((Chg.alloc w _).then_alloc _).then_alloc _
  obtain ⟨y1, y2, y3⟩ := heap_new3 w (.cells #[.int .i64 4, .int .i64 oh, .int .i64 oa, .int .i64 ol, .slice pp pn pc] 33) (.cells #[.int .i64 4, .int .i64 0, .int .i64 oh, .int .i64 0, .slice none 0 0] 39) (.cells #[.int .i64 0, .int .i64 0, .int .i64 0, .int .i64 0, .slice none 0 0] 39)
  generalize hw0 : ((w.alloc (.cells #[.int .i64 4, .int .i64 oh, .int .i64 oa, .int .i64 ol, .slice pp pn pc] 33)).alloc (.cells #[.int .i64 4, .int .i64 0, .int .i64 oh, .int .i64 0, .slice none 0 0] 39)).alloc (.cells #[.int .i64 0, .int .i64 0, .int .i64 0, .int .i64 0, .slice none 0 0] 39) = w0 at *
  have hz1 := heap_lt y1
  generalize hz : w.heap.size = z at *
  have z0 := cell_is y1 0 rfl
  have a0 := cell_is y2 0 rfl
  have a1 := cell_is y2 1 rfl
  have a2 := cell_is y2 2 rfl
  have a3 := cell_is y2 3 rfl
  have a4 := cell_is y2 4 rfl
  have HCo := Lib.hid (HC w0 kk)
  have HX := Lib.hid (And.intro y3 kk)
  clear HC y2 y3 kk
  go_enter Tryz.func51, Tryz.ntmps51
  go_wp2_with fail
  refine HCo.out.mono ?_
  rintro e w1 ⟨rfl, cs, hp, hK, h66⟩
  have y31 := h66 _ _ HX.out.1
  have t0 := cell_is y31 0 rfl
  have t1 := cell_is y31 1 rfl
  have t2 := cell_is y31 2 rfl
  have t3 := cell_is y31 3 rfl
  have t4 := cell_is y31 4 rfl
  have e0 := unfrozen y31 0
  have e1 := unfrozen y31 1
  have e2 := unfrozen y31 2
  have e3 := unfrozen y31 3
  have e4 := unfrozen y31 4
  have HR := Lib.hid (And.intro hp (And.intro hK h66))
  clear hp hK h66 z0 a0 a1 a2 a3 a4 y1
  go_wp2_with fail
  obtain ⟨y11, k11⟩ := set5 (.int .i64 x0) (.int .i64 x1) (.int .i64 x2) (.int .i64 x3) (.slice none 0 0) y31
  generalize ((((w1.setCell ⟨z + 2, 0, none⟩ (.int .i64 x0)).setCell ⟨z + 2, 1, none⟩ (.int .i64 x1)).setCell ⟨z + 2, 2, none⟩ (.int .i64 x2)).setCell ⟨z + 2, 3, none⟩ (.int .i64 x3)).setCell ⟨z + 2, 4, none⟩ (.slice none 0 0) = w6 at *
  have r0 := cell_is y11 0 rfl
  have r1 := cell_is y11 1 rfl
  have r2 := cell_is y11 2 rfl
  have r3 := cell_is y11 3 rfl
  have r4 := cell_is y11 4 rfl
  obtain ⟨hp, hK, h66⟩ := HR.out
  have tp : Tp w1 [z + 2] [39] := fun x hx => by
    rw [List.mem_singleton] at hx
    subst hx
    exact ⟨_, _, y31, by simp⟩
  refine bodyPost_ret (v := .tuple #[.agg #[.int .i64 x0, .int .i64 x1, .int .i64 x2, .int .i64 x3, .slice none 0 0], .bool fl]) (by simp [results, Tryz.results51, go_sem, r0, r1, r2, r3, r4]) rfl ?_
  refine ⟨rfl, cs, (hP cs).box hp k11 tp (fun x hx => by rw [List.mem_singleton] at hx; omega), k11.heap hK ?_, ((K66.of0 HX.out.2).trans h66).new k11 (fun x hx => by rw [List.mem_singleton] at hx; omega)⟩
  intro hm
  rw [List.mem_singleton] at hm
  exact heap_ne hK y31 (by simp) hm
set_option maxRecDepth 100000 in
set_option maxHeartbeats 4000000 in
theorem do_call (w : World) {K Bb lw gb nb cb : Nat} {P : Array Value → World → Prop} {kind oa ol h x0 x1 x2 x3 : Int} {pp : Option Addr} {pn pc : Nat} {fl : Bool} (hk : kind = 3 ∨ kind = 4) (hlw : lw ≤ w.heap.size) (hP : ∀ cs, Cl lw (P cs))
    (c3 : w.cell? ⟨K, 3, none⟩ = some (.slice (some ⟨gb, 0, none⟩) nb cb)) (hnb : 0 < nb) (g0 : w.cell? ⟨gb, 0, none⟩ = some (.pointer (some ⟨Bb, 0, none⟩))) (b0 : w.cell? ⟨Bb, 0, none⟩ = some (.int .i64 h)) (hh : 0 < h)
    (HC : ∀ wx, Chg [] w wx → Calls Tryz.prog 51 #[.pointer (some ⟨K, 0, none⟩), .pointer (some ⟨K, 2, none⟩), .pointer (some ⟨Bb, 0, none⟩), .agg #[.int .i64 kind, .int .i64 0, .int .i64 oa, .int .i64 ol, .slice pp pn pc], .agg #[.int .i64 kind, .int .i64 0, .int .i64 0, .int .i64 0, .slice none 0 0]] wx (DoR wx K P x0 x1 x2 x3 fl)) :
    Calls Tryz.prog 22 #[.pointer (some ⟨K, 0, none⟩), .pointer (some ⟨K, 2, none⟩), .agg #[.int .i64 kind, .int .i64 0, .int .i64 oa, .int .i64 ol, .slice pp pn pc]] w (DoR w K P x0 x1 x2 x3 fl) := by
  have kk : Chg [] w ((w.alloc (.cells #[.int .i64 kind, .int .i64 0, .int .i64 oa, .int .i64 ol, .slice pp pn pc] 33)).alloc (.cells #[.int .i64 0, .int .i64 0, .int .i64 0, .int .i64 0, .slice none 0 0] 39)) := (Chg.alloc w _).then_alloc _
  obtain ⟨y1, y2⟩ := heap_new2 w (.cells #[.int .i64 kind, .int .i64 0, .int .i64 oa, .int .i64 ol, .slice pp pn pc] 33) (.cells #[.int .i64 0, .int .i64 0, .int .i64 0, .int .i64 0, .slice none 0 0] 39)
  generalize hw0 : (w.alloc (.cells #[.int .i64 kind, .int .i64 0, .int .i64 oa, .int .i64 ol, .slice pp pn pc] 33)).alloc (.cells #[.int .i64 0, .int .i64 0, .int .i64 0, .int .i64 0, .slice none 0 0] 39) = w0 at *
  have hz1 := heap_lt y1
  generalize hz : w.heap.size = z at *
  have z0 := cell_is y1 0 rfl
  have z1 := cell_is y1 1 rfl
  have z2 := cell_is y1 2 rfl
  have z3 := cell_is y1 3 rfl
  have z4 := cell_is y1 4 rfl
  have t0 := cell_is y2 0 rfl
  have t1 := cell_is y2 1 rfl
  have t2 := cell_is y2 2 rfl
  have t3 := cell_is y2 3 rfl
  have t4 := cell_is y2 4 rfl
  have e0 := unfrozen y2 0
  have e1 := unfrozen y2 1
  have e2 := unfrozen y2 2
  have e3 := unfrozen y2 3
  have e4 := unfrozen y2 4
  have m1 : decide (kind = 1) = false := decide_eq_false (by omega)
  have m2 : decide (kind = 2) = false := decide_eq_false (by omega)
  go_enter Tryz.func22, Tryz.ntmps22
  go_upto_region 1 with fail
  apply wp_scope_straight
  go_upto_region 2 with fail
  have v2 : (((((w0.setCell ⟨z + 1, 0, none⟩ (.int .i64 kind)).setCell ⟨z + 1, 1, none⟩ (.int .i64 0)).setCell ⟨z + 1, 2, none⟩ (.int .i64 0)).setCell ⟨z + 1, 3, none⟩ (.int .i64 0)).setCell ⟨z + 1, 4, none⟩ (.slice none 0 0)).heap[z + 1]? = some (.cells #[.int .i64 kind, .int .i64 0, .int .i64 0, .int .i64 0, .slice none 0 0] 39 (0, 0)) := (set5 _ _ _ _ _ y2).1
  have k2 := (set5 (.int .i64 kind) (.int .i64 0) (.int .i64 0) (.int .i64 0) (.slice none 0 0) y2).2
  generalize ((((w0.setCell ⟨z + 1, 0, none⟩ (.int .i64 kind)).setCell ⟨z + 1, 1, none⟩ (.int .i64 0)).setCell ⟨z + 1, 2, none⟩ (.int .i64 0)).setCell ⟨z + 1, 3, none⟩ (.int .i64 0)).setCell ⟨z + 1, 4, none⟩ (.slice none 0 0) = w1 at *
  have kk1 : Chg [] w w1 := kk.trans k2 (fun x hx hlt => by rw [List.mem_singleton] at hx; omega)
  have v1 := k2.heap y1 (by simp)
  clear z0 z1 z2 z3 z4 t0 t1 t2 t3 t4 e0 e1 e2 e3 e4
  have z0 := cell_is v1 0 rfl
  have z1 := cell_is v1 1 rfl
  have z2 := cell_is v1 2 rfl
  have z3 := cell_is v1 3 rfl
  have z4 := cell_is v1 4 rfl
  have t0 := cell_is v2 0 rfl
  have t1 := cell_is v2 1 rfl
  have t2 := cell_is v2 2 rfl
  have t3 := cell_is v2 3 rfl
  have t4 := cell_is v2 4 rfl
  have HA := Lib.hid (at_ok w1 (K := K) (o := 2) (kk1.cell c3 (by simp)) rfl hnb (kk1.cell g0 (by simp)) (kk1.cell b0 (by simp)) hh)
  have HCo := Lib.hid (HC w1 kk1)
  have HX := Lib.hid (And.intro v2 kk1)
  clear HC v2 kk1 v1 kk y1 y2 k2 c3 g0 b0
  go_wp2_with fail
  refine HA.out.mono ?_
  rintro e w2 ⟨rfl, rfl⟩
  have n3 : ∀ {p : Prop}, (kind = 3 → p) → (kind = 4 → p) → p := fun h3 h4 => hk.elim h3 h4
  rcases hk with rfl | rfl
  all_goals
    go_wp2_with fail
    apply wp_label
    go_wp2_with fail
    refine HCo.out.mono ?_
    rintro e w3 ⟨rfl, cs, hp, hK, h66⟩
    have y31 := h66 _ _ HX.out.1
    have s0 := cell_is y31 0 rfl
    have s1 := cell_is y31 1 rfl
    have s2 := cell_is y31 2 rfl
    have s3 := cell_is y31 3 rfl
    have s4 := cell_is y31 4 rfl
    have e0 := unfrozen y31 0
    have e1 := unfrozen y31 1
    have e2 := unfrozen y31 2
    have e3 := unfrozen y31 3
    have e4 := unfrozen y31 4
    have HR := Lib.hid (And.intro hp (And.intro hK h66))
    clear hp hK h66 z0 z1 z2 z3 z4 t0 t1 t2 t3 t4
    go_wp2_with fail
    obtain ⟨y11, k11⟩ := set5 (.int .i64 x0) (.int .i64 x1) (.int .i64 x2) (.int .i64 x3) (.slice none 0 0) y31
    generalize ((((w3.setCell ⟨z + 1, 0, none⟩ (.int .i64 x0)).setCell ⟨z + 1, 1, none⟩ (.int .i64 x1)).setCell ⟨z + 1, 2, none⟩ (.int .i64 x2)).setCell ⟨z + 1, 3, none⟩ (.int .i64 x3)).setCell ⟨z + 1, 4, none⟩ (.slice none 0 0) = w6 at *
    have r0 := cell_is y11 0 rfl
    have r1 := cell_is y11 1 rfl
    have r2 := cell_is y11 2 rfl
    have r3 := cell_is y11 3 rfl
    have r4 := cell_is y11 4 rfl
    obtain ⟨hp, hK, h66⟩ := HR.out
    have tp : Tp w3 [z + 1] [39] := fun x hx => by
      rw [List.mem_singleton] at hx
      subst hx
      exact ⟨_, _, y31, by simp⟩
    simp only [Exit.noGoto]
    refine bodyPost_ret (v := .tuple #[.agg #[.int .i64 x0, .int .i64 x1, .int .i64 x2, .int .i64 x3, .slice none 0 0], .bool fl]) (by simp [results, Tryz.results22, go_sem, r0, r1, r2, r3, r4]) rfl ?_
    refine ⟨rfl, cs, (hP cs).box hp k11 tp (fun x hx => by rw [List.mem_singleton] at hx; omega), k11.heap hK ?_, ((K66.of0 HX.out.2).trans h66).new k11 (fun x hx => by rw [List.mem_singleton] at hx; omega)⟩
    intro hm
    rw [List.mem_singleton] at hm
    exact heap_ne hK y31 (by simp) hm
end Go.Proofs.YtliicpedddcfiaaGreat
namespace Go.Proofs.YtliicpedddcfiaaGreat
open Go.RowKit Go.Lib

theorem own_k66 {w w' : World} {lo n : Nat} {v : Value} {xs : List Value} (h : w.ownsRow lo 39 5 v n xs) (k : K66 w w') : w'.ownsRow lo 39 5 v n xs := by
  refine ⟨h.1, ?_⟩
  rcases h.2 with ⟨e, h0⟩ | ⟨g, cap, cur, e, hA, hg, h3⟩
  · exact Or.inl ⟨e, h0⟩
  · exact Or.inr ⟨g, cap, cur, e, hA, k g cur hg, h3⟩
set_option maxRecDepth 100000 in
set_option maxHeartbeats 4000000 in
theorem do_begin (w : World) {K lw : Nat} {P : Array Value → World → Prop} {x0 x1 x2 x3 : Int} (hlw : lw ≤ w.heap.size) (hP : ∀ cs, Cl lw (P cs))
    (HC : ∀ wx, Chg [] w wx → Calls Tryz.prog 49 #[.pointer (some ⟨K, 0, none⟩), .pointer (some ⟨K, 2, none⟩), .agg #[.int .i64 1, .int .i64 0, .int .i64 0, .int .i64 0, .slice none 0 0]] wx fun e w' =>
      e = .returned (.agg #[.int .i64 x0, .int .i64 x1, .int .i64 x2, .int .i64 x3, .slice none 0 0]) ∧ ∃ cs, P cs w' ∧ SchB w' K cs ∧ K66 wx w') :
    Calls Tryz.prog 22 #[.pointer (some ⟨K, 0, none⟩), .pointer (some ⟨K, 2, none⟩), .agg #[.int .i64 1, .int .i64 0, .int .i64 0, .int .i64 0, .slice none 0 0]] w (DoR w K P x0 x1 x2 x3 true) := by
  have kk : Chg [] w ((w.alloc (.cells #[.int .i64 1, .int .i64 0, .int .i64 0, .int .i64 0, .slice none 0 0] 33)).alloc (.cells #[.int .i64 0, .int .i64 0, .int .i64 0, .int .i64 0, .slice none 0 0] 39)) := (Chg.alloc w _).then_alloc _
  obtain ⟨y1, y2⟩ := heap_new2 w (.cells #[.int .i64 1, .int .i64 0, .int .i64 0, .int .i64 0, .slice none 0 0] 33) (.cells #[.int .i64 0, .int .i64 0, .int .i64 0, .int .i64 0, .slice none 0 0] 39)
  generalize hw0 : (w.alloc (.cells #[.int .i64 1, .int .i64 0, .int .i64 0, .int .i64 0, .slice none 0 0] 33)).alloc (.cells #[.int .i64 0, .int .i64 0, .int .i64 0, .int .i64 0, .slice none 0 0] 39) = w0 at *
  have hz1 := heap_lt y1
  generalize hz : w.heap.size = z at *
  have z0 := cell_is y1 0 rfl
  have z1 := cell_is y1 1 rfl
  have z2 := cell_is y1 2 rfl
  have z3 := cell_is y1 3 rfl
  have z4 := cell_is y1 4 rfl
  have t0 := cell_is y2 0 rfl
  have t1 := cell_is y2 1 rfl
  have t2 := cell_is y2 2 rfl
  have t3 := cell_is y2 3 rfl
  have t4 := cell_is y2 4 rfl
  have e0 := unfrozen y2 0
  have e1 := unfrozen y2 1
  have e2 := unfrozen y2 2
  have e3 := unfrozen y2 3
  have e4 := unfrozen y2 4
  go_enter Tryz.func22, Tryz.ntmps22
  go_upto_region 1 with fail
  apply wp_scope_straight
  go_upto_region 2 with fail
  have v2 : (((((w0.setCell ⟨z + 1, 0, none⟩ (.int .i64 1)).setCell ⟨z + 1, 1, none⟩ (.int .i64 0)).setCell ⟨z + 1, 2, none⟩ (.int .i64 0)).setCell ⟨z + 1, 3, none⟩ (.int .i64 0)).setCell ⟨z + 1, 4, none⟩ (.slice none 0 0)).heap[z + 1]? = some (.cells #[.int .i64 1, .int .i64 0, .int .i64 0, .int .i64 0, .slice none 0 0] 39 (0, 0)) := (set5 _ _ _ _ _ y2).1
  have k2 := (set5 (.int .i64 1) (.int .i64 0) (.int .i64 0) (.int .i64 0) (.slice none 0 0) y2).2
  generalize ((((w0.setCell ⟨z + 1, 0, none⟩ (.int .i64 1)).setCell ⟨z + 1, 1, none⟩ (.int .i64 0)).setCell ⟨z + 1, 2, none⟩ (.int .i64 0)).setCell ⟨z + 1, 3, none⟩ (.int .i64 0)).setCell ⟨z + 1, 4, none⟩ (.slice none 0 0) = w1 at *
  have kk1 : Chg [] w w1 := kk.trans k2 (fun x hx hlt => by rw [List.mem_singleton] at hx; omega)
  have v1 := k2.heap y1 (by simp)
  clear z0 z1 z2 z3 z4 t0 t1 t2 t3 t4 e0 e1 e2 e3 e4
  have z0 := cell_is v1 0 rfl
  have t0 := cell_is v2 0 rfl
  have t1 := cell_is v2 1 rfl
  have t2 := cell_is v2 2 rfl
  have t3 := cell_is v2 3 rfl
  have t4 := cell_is v2 4 rfl
  have HCo := Lib.hid (HC w1 kk1)
  have HX := Lib.hid (And.intro v2 kk1)
  clear HC v2 kk1 v1 kk y1 y2 k2
  go_wp2_with fail
  refine HCo.out.mono ?_
  rintro e w3 ⟨rfl, cs, hp, hK, h66⟩
  have y31 := h66 _ _ HX.out.1
  have s0 := cell_is y31 0 rfl
  have s1 := cell_is y31 1 rfl
  have s2 := cell_is y31 2 rfl
  have s3 := cell_is y31 3 rfl
  have s4 := cell_is y31 4 rfl
  have e0 := unfrozen y31 0
  have e1 := unfrozen y31 1
  have e2 := unfrozen y31 2
  have e3 := unfrozen y31 3
  have e4 := unfrozen y31 4
  have HR := Lib.hid (And.intro hp (And.intro hK h66))
  clear hp hK h66 z0 t0 t1 t2 t3 t4
  go_wp2_with fail
  obtain ⟨y11, k11⟩ := set5 (.int .i64 x0) (.int .i64 x1) (.int .i64 x2) (.int .i64 x3) (.slice none 0 0) y31
  generalize ((((w3.setCell ⟨z + 1, 0, none⟩ (.int .i64 x0)).setCell ⟨z + 1, 1, none⟩ (.int .i64 x1)).setCell ⟨z + 1, 2, none⟩ (.int .i64 x2)).setCell ⟨z + 1, 3, none⟩ (.int .i64 x3)).setCell ⟨z + 1, 4, none⟩ (.slice none 0 0) = w6 at *
  have r0 := cell_is y11 0 rfl
  have r1 := cell_is y11 1 rfl
  have r2 := cell_is y11 2 rfl
  have r3 := cell_is y11 3 rfl
  have r4 := cell_is y11 4 rfl
  obtain ⟨hp, hK, h66⟩ := HR.out
  have tp : Tp w3 [z + 1] [39] := fun x hx => by
    rw [List.mem_singleton] at hx
    subst hx
    exact ⟨_, _, y31, by simp⟩
  simp only [Exit.noGoto]
  refine bodyPost_ret (v := .tuple #[.agg #[.int .i64 x0, .int .i64 x1, .int .i64 x2, .int .i64 x3, .slice none 0 0], .bool true]) (by simp [results, Tryz.results22, go_sem, r0, r1, r2, r3, r4]) rfl ?_
  refine ⟨rfl, cs, (hP cs).box hp k11 tp (fun x hx => by rw [List.mem_singleton] at hx; omega), k11.heap hK ?_, ((K66.of0 HX.out.2).trans h66).new k11 (fun x hx => by rw [List.mem_singleton] at hx; omega)⟩
  intro hm
  rw [List.mem_singleton] at hm
  exact heap_ne hK y31 (by simp) hm
theorem ty79 : Tryz.prog.underlying 67 = some (.slice 39) := by kernel_rfl
theorem inf66 : (Tryz.prog.info? 39).map (fun i => (i.zero, i.size, i.bytes)) = some (some (.agg #[.int .i64 0, .int .i64 0, .int .i64 0, .int .i64 0, .slice none 0 0]), 5, 56) := by kernel_rfl
/-- an answer is put behind a row of answers, as a step of a region that draws. -/
theorem step_append_ans {ops : Array Oper} {o : Oper} {a : Act} {w : World} {K : Act → World → Prop} {Q : Exit → Act → World → Prop} {E : Prop} (hgd : o.guard = none) (s x : Operand)
    (ho : o.op = .call { callee := .builtin .append, args := #[s, x], argTypes := #[67, 67] }) (base b c n : Nat) (v u0 u1 u2 u3 u4 : Value) (xs : List Value) (hs : a.eval s = v) (hown : w.ownsRow base 39 5 v n xs) (hbase : base ≤ w.heap.size) (hn : n ≤ 1000)
    (hx : a.eval x = .slice (some ⟨b, 0, none⟩) 1 c) (hb : w.heap[b]? = some (.cells #[u0, u1, u2, u3, u4] 39 (0, 0))) (h1 : u0.oneCell' = true ∧ u1.oneCell' = true ∧ u2.oneCell' = true ∧ u3.oneCell' = true ∧ u4.oneCell' = true)
    (h : ∀ g cap w', w'.ownsRow base 39 5 (.slice (some ⟨g, 0, none⟩) (n + 1) cap) (n + 1) (xs ++ [u0, u1, u2, u3, u4]) → Chg v.ownBlock.toList w w' → (v.ownBlock = some g ∨ g = w.heap.size) → K (a.put o.dst (.slice (some ⟨g, 0, none⟩) (n + 1) cap)) w') :
    if Region.wanted o (yielded ops a.tmps) = true then Oper.wp Tryz.prog o a w K Q else E := by
  obtain ⟨i, hi0, hz, hz1, hz2⟩ := info_parts inf66
  refine step_append_lies w hgd s x 67 ho base 39 i _ 5 56 ty79 hi0 hz hz1 hz2 rfl (by decide) v n xs hs hown ⟨b, 0, none⟩ 1 c [u0, u1, u2, u3, u4] hx rfl ?_ ?_ (by decide) (by unfold maxLen; omega) (by omega) hbase _ rfl ?_
  · intro j u hu
    rw [show (⟨b, 0, none⟩ : Addr).add j = ⟨b, 0 + j, none⟩ from by unfold Addr.add; split <;> simp_all, Nat.zero_add]
    exact cell_is hb j (by simpa using hu)
  · intro u hu
    simp at hu
    obtain ⟨h2, h3, h4, h5, h6⟩ := h1
    rcases hu with rfl | rfl | rfl | rfl | rfl <;> assumption
  · intro g cap w' h2 h3 h4 _
    exact h g cap w' h2 (Chg.of_grownO h3) h4
/-- the ops behind the first one. -/
def cutV (g o m c : Nat) : Value := .slice (if c = 1 then some ⟨g, o, none⟩ else some ⟨g, o + 5, none⟩) m (c - 1)
set_option maxRecDepth 100000 in
set_option maxHeartbeats 8000000 in
theorem step_told (w : World) {K P0 lw g o m c na : Nat} {P : Array Value → World → Prop} {cs : Array Value} {kind oh oa ol ev x0 x1 x2 x3 : Int} {pp : Option Addr} {pn pc : Nat} {av : Value} {xa : List Value} {q : Bool} (hlw : lw ≤ w.heap.size) (hKl : lw ≤ K) (hP : ∀ cs, Cl lw (P cs))
    (hB : SchB w K cs) (h1 : cs[1]? = some (.pointer (some ⟨P0, 0, none⟩))) (h2 : cs[2]? = some (.slice (some ⟨g, o, none⟩) (m + 1) c)) (h35 : cs[35]? = some (.int .i64 ev)) (hev : 0 ≤ ev ∧ ev ≤ 1000000) (_hc : m + 1 ≤ c)
    (u0 : w.cell? ⟨g, o, none⟩ = some (.int .i64 kind)) (u1 : w.cell? ⟨g, o + 1, none⟩ = some (.int .i64 oh)) (u2 : w.cell? ⟨g, o + 2, none⟩ = some (.int .i64 oa)) (u3 : w.cell? ⟨g, o + 3, none⟩ = some (.int .i64 ol)) (u4 : w.cell? ⟨g, o + 4, none⟩ = some (.slice pp pn pc)) (hgK : g ≠ K)
    (HD : ∀ wx, Chg [K] w wx → SchB wx K (cs.setIfInBounds 35 (.int .i64 (ev + 1))) → Calls Tryz.prog 22 #[.pointer (some ⟨K, 0, none⟩), .pointer (some ⟨K, 2, none⟩), .agg #[.int .i64 kind, .int .i64 oh, .int .i64 oa, .int .i64 ol, .slice pp pn pc]] wx (DoR wx K P x0 x1 x2 x3 true))
    (hQ : ∀ cs2 w2, P cs2 w2 → cs2[2]? = some (.slice (some ⟨g, o, none⟩) (m + 1) c) ∧ cs2[4]? = some av ∧ cs2[5]? = some (.bool q)) (hav : w.ownsRow lw 39 5 av na xa) (hna : na ≤ 900) :
    Calls Tryz.prog 10 #[.pointer (some ⟨K, 0, none⟩), .int .i64 1] w fun e w' => e = .returned (.tuple #[.agg #[.int .i64 x0, .int .i64 x1, .int .i64 x2, .int .i64 x3, .slice none 0 0], .int .i64 0]) ∧ ∃ av' cs2, P cs2 w' ∧
      SchB w' K (((cs2.setIfInBounds 2 (cutV g o m c)).setIfInBounds 5 (.bool false)).setIfInBounds 4 av') ∧ w'.ownsRow lw 39 5 av' (na + 1) (xa ++ [.int .i64 x0, .int .i64 x1, .int .i64 x2, .int .i64 x3, .slice none 0 0]) := by
  have k0 : Chg [] w (w.alloc (.cells #[.int .i64 0, .int .i64 0, .int .i64 0, .int .i64 0, .slice none 0 0] 39)) := Chg.alloc w _
  have y0 := heap_new w (.cells #[.int .i64 0, .int .i64 0, .int .i64 0, .int .i64 0, .slice none 0 0] 39)
  generalize hw0 : w.alloc (.cells #[.int .i64 0, .int .i64 0, .int .i64 0, .int .i64 0, .slice none 0 0] 39) = w0 at *
  generalize hz : w.heap.size = z at *
  have hKz : K < z := by rw [← hz]; exact heap_lt hB
  have hzl := heap_lt y0
  have B0 : SchB w0 K cs := k0.heap hB (by simp)
  have HCl : Hid (Calls Tryz.prog 19 #[.pointer (some ⟨K, 0, none⟩), .int .i64 1] w0 fun e w' => e = .returned (.pointer (some ⟨K, 2, none⟩)) ∧ w0 = w') := Lib.hid (client_in w0 B0 h1 ⟨by decide, by decide⟩)
  have c35 := cell_is B0 35 h35
  have f35 := unfrozen B0 35
  have n1 : IntKind.i64.wrap (ev + 1) = ev + 1 := by rw [IntKind.wrap_i64]; omega
  have hs35 : 35 < cs.size := (Array.getElem?_eq_some_iff.1 h35).1
  have HQ0 := Lib.hid (And.intro h2 (And.intro hQ hna))
  have HU := Lib.hid (And.intro u0 (And.intro u1 (And.intro u2 (And.intro u3 u4))))
  have HDo := Lib.hid HD
  have HZo := Lib.hid (show ∀ g', av.ownBlock = some g' → g' < z from fun g' hg' => by
    obtain ⟨-, cur, hh⟩ := own_elem hav hg'
    rw [← hz]
    exact heap_lt hh)
  have HB := Lib.hid (And.intro hB (And.intro k0 (And.intro y0 (And.intro B0 hav))))
  clear hB h1 h35 u0 u1 u2 u3 u4 HD hQ hav k0 y0 B0 h2
  go_enter Tryz.func10, Tryz.ntmps10
  go_wp2_with fail
  refine HCl.out.mono ?_
  rintro e w1 ⟨rfl, rfl⟩
  go_upto_region 5 with fail
  obtain ⟨hB, k0, y0, B0, hav⟩ := HB.out
  have B1 : SchB (w0.setCell ⟨K, 35, none⟩ (.int .i64 (ev + 1))) K (cs.setIfInBounds 35 (.int .i64 (ev + 1))) := heap_set B0 35 _ rfl
  have k1 : Chg [K] w0 (w0.setCell ⟨K, 35, none⟩ (.int .i64 (ev + 1))) := Chg.set _ _ _ _
  generalize w0.setCell ⟨K, 35, none⟩ (.int .i64 (ev + 1)) = w1 at *
  have k01 : Chg [K] w w1 := (k0.mono (fun x hx _ => by cases hx)).then k1
  have y1 := k1.heap y0 (by simp; omega)
  have c2 : w1.cell? ⟨K, 2, none⟩ = some (.slice (some ⟨g, o, none⟩) (m + 1) c) := cell_is B1 2 (by rw [Array.getElem?_setIfInBounds_ne (by decide)]; exact HQ0.out.1)
  have u0 := k01.cell HU.out.1 (by simpa using hgK)
  have u1 := k01.cell HU.out.2.1 (by simpa using hgK)
  have u2 := k01.cell HU.out.2.2.1 (by simpa using hgK)
  have u3 := k01.cell HU.out.2.2.2.1 (by simpa using hgK)
  have u4 := k01.cell HU.out.2.2.2.2 (by simpa using hgK)
  have n2 : decide (((m + 1 : Nat) : Int) = 0) = false := decide_eq_false (by omega)
  have n3 : decide ((m : Int) + 1 = 0) = false := decide_eq_false (by omega)
  have n4 : ¬ ((m : Int) + 1 = 0) := by omega
  have HD1 := Lib.hid (HDo.out w1 k01 B1)
  have HX1 := Lib.hid (And.intro y1 (own_chgB hav k01 (fun g' hg' hm => by
    rw [List.mem_singleton] at hm
    subst hm
    obtain ⟨-, cur, hh⟩ := own_elem hav hg'
    rw [show w.heap[_]? = _ from hB] at hh
    cases hh)))
  clear hB k0 y0 B0 hav B1 k1 y1 c35 f35 n1 HB HDo HCl
  go_wp2_with fail
  refine HD1.out.mono ?_
  rintro e w2 ⟨rfl, cs2, hp, hK2, h66⟩
  have hq2 := HQ0.out.2.1 cs2 w2 hp
  have HQ := Lib.hid (And.intro HQ0.out.1 (And.intro hq2.1 (And.intro hq2.2.1 (And.intro hq2.2.2 HQ0.out.2.2))))
  clear hq2
  have HX2 := Lib.hid (And.intro hp (And.intro hK2 (And.intro (h66 _ _ HX1.out.1) (own_k66 HX1.out.2 h66))))
  have hs12 : z < w2.heap.size := by have := heap_lt (h66 _ _ HX1.out.1); exact this
  clear hp hK2 h66 c2 u0 u1 u2 u3 u4 n2 n3 n4
  go_upto_region 11 with fail
  obtain ⟨hp, hK2, y2, hav2⟩ := HX2.out
  have k3 : Chg [] w2 (w2.alloc (.cells #[.int .i64 x0, .int .i64 x1, .int .i64 x2, .int .i64 x3, .slice none 0 0] 39)) := Chg.alloc w2 _
  have b3 := heap_new w2 (.cells #[.int .i64 x0, .int .i64 x1, .int .i64 x2, .int .i64 x3, .slice none 0 0] 39)
  generalize w2.alloc (.cells #[.int .i64 x0, .int .i64 x1, .int .i64 x2, .int .i64 x3, .slice none 0 0] 39) = w3 at *
  generalize hzb : w2.heap.size = zb at *
  have B3 : SchB w3 K cs2 := k3.heap hK2 (by simp)
  have y3 := k3.heap y2 (by simp)
  have hp3 := (hP cs2).box hp k3 (fun x hx => by cases hx) (fun x hx => by cases hx)
  have hav3 := own_keep hav2 k3.below0
  have hKb : K < zb := by rw [← hzb]; exact heap_lt hK2
  have c2 := cell_is B3 2 HQ.out.2.1
  have c5 := cell_is B3 5 HQ.out.2.2.2.1
  have f2 := unfrozen B3 2
  have f5 := unfrozen B3 5
  clear hp hK2 y2 hav2 k3 HX2
  go_upto_region 12 with fail
  have hcut : cutV g o m c = .slice (if c = 1 then some ⟨g, o, none⟩ else some ⟨g, o + 5, none⟩) m (c - 1) := rfl
  generalize (if c = 1 then some (⟨g, o, none⟩ : Addr) else some ⟨g, o + 5, none⟩) = pq at *
  have HCut := Lib.hid hcut
  clear hcut
  have B4 : SchB ((w3.setCell ⟨K, 2, none⟩ (.slice pq m (c - 1))).setCell ⟨K, 5, none⟩ (.bool false)) K ((cs2.setIfInBounds 2 (.slice pq m (c - 1))).setIfInBounds 5 (.bool false)) := heap_set (heap_set B3 2 _ rfl) 5 _ rfl
  have k4 : Chg [K] w3 ((w3.setCell ⟨K, 2, none⟩ (.slice pq m (c - 1))).setCell ⟨K, 5, none⟩ (.bool false)) := (Chg.set _ _ _ _).then (Chg.set _ _ _ _)
  generalize (w3.setCell ⟨K, 2, none⟩ (.slice pq m (c - 1))).setCell ⟨K, 5, none⟩ (.bool false) = w4 at *
  have tpK : Tp w3 [K] [72, 39] := fun x hx => by
    rw [List.mem_singleton] at hx
    subst hx
    exact ⟨_, _, B3, by simp⟩
  have hp4 := (hP cs2).keep _ _ _ hp3 k4 tpK (fun x hx => by rw [List.mem_singleton] at hx; omega)
  have y4 := k4.heap y3 (by simp; omega)
  have b4 := k4.heap b3 (by simp; omega)
  have hav4 := own_chgB hav3 k4 (fun g' hg' hm => by
    rw [List.mem_singleton] at hm
    subst hm
    obtain ⟨-, cur, hh⟩ := own_elem hav3 hg'
    rw [show w3.heap[_]? = _ from B3] at hh
    cases hh)
  obtain ⟨pa, ca, rfl, hca⟩ := own_form hav4
  have e24 : (((cs2.setIfInBounds 2 (Value.slice pq m (c - 1))).setIfInBounds 5 (.bool false))[4]? = some (.slice pa na ca)) := by
    rw [Array.getElem?_setIfInBounds_ne (by decide), Array.getElem?_setIfInBounds_ne (by decide)]
    exact HQ.out.2.2.1
  have HB4 := Lib.hid (And.intro B4 (And.intro hp4 (And.intro y4 (And.intro b4 (And.intro hav4 e24)))))
  have s4 : w4.cell? ⟨K, 4, none⟩ = some (.slice pa na ca) := cell_is B4 4 e24
  have s4d : w4.drew.cell? ⟨K, 4, none⟩ = some (.slice pa na ca) := s4
  have d0 := cell_is b4 0 rfl
  have d1 := cell_is b4 1 rfl
  have d2 := cell_is b4 2 rfl
  have d3 := cell_is b4 3 rfl
  have d4 := cell_is b4 4 rfl
  have d0d : w4.drew.cell? ⟨zb, 0, none⟩ = some (.int .i64 x0) := d0
  have d1d : w4.drew.cell? ⟨zb, 1, none⟩ = some (.int .i64 x1) := d1
  have d2d : w4.drew.cell? ⟨zb, 2, none⟩ = some (.int .i64 x2) := d2
  have d3d : w4.drew.cell? ⟨zb, 3, none⟩ = some (.int .i64 x3) := d3
  have d4d : w4.drew.cell? ⟨zb, 4, none⟩ = some (.slice none 0 0) := d4
  have kA : Chg [] w4 (w4.alloc (.cells #[.int .i64 x0, .int .i64 x1, .int .i64 x2, .int .i64 x3, .slice none 0 0] 39)).drew := (Chg.alloc w4 _).drew
  have yA : (w4.alloc (.cells #[.int .i64 x0, .int .i64 x1, .int .i64 x2, .int .i64 x3, .slice none 0 0] 39)).drew.heap[w4.heap.size]? = _ := heap_new w4 (.cells #[.int .i64 x0, .int .i64 x1, .int .i64 x2, .int .i64 x3, .slice none 0 0] 39)
  have sA := kA.cell s4 (by simp)
  have BA := kA.heap B4 (by simp)
  have oA := own_keep hav4 kA.below0
  have hlA : lw ≤ (w4.alloc (.cells #[.int .i64 x0, .int .i64 x1, .int .i64 x2, .int .i64 x3, .slice none 0 0] 39)).drew.heap.size := by have := kA.size; have := heap_lt y4; omega
  have hna := HQ.out.2.2.2.2
  clear B4 hp4 y4 b4 hav4 e24 k4 hp3 y3 b3 hav3 B3 c2 c5 f2 f5 tpK
  go_region_law
    (first
      | (refine step_append_ans rfl (.tmp 62) (.tmp 64) rfl lw w4.heap.size 1 na (.slice pa na ca) _ _ _ _ _ xa rfl oA hlA (by omega) rfl yA ⟨rfl, rfl, rfl, rfl, rfl⟩ ?_; intro g7 c7 w7 o7 k7 n7; have B7 : SchB w7 K _ := k7.heap BA (own_not oA BA (by decide)); have s8 := cell_is B7 4 HB4.out.2.2.2.2.2; have f8 := unfrozen B7 4))
  all_goals
    obtain ⟨B4, hp4, y4, b4, hav4, e24⟩ := HB4.out
    have B8 : SchB (w7.setCell ⟨K, 4, none⟩ (.slice (some ⟨g7, 0, none⟩) (na + 1) c7)) K (((cs2.setIfInBounds 2 (.slice pq m (c - 1))).setIfInBounds 5 (.bool false)).setIfInBounds 4 (.slice (some ⟨g7, 0, none⟩) (na + 1) c7)) := heap_set B7 4 _ rfl
    have ks8 : Chg [K] w7 (w7.setCell ⟨K, 4, none⟩ (.slice (some ⟨g7, 0, none⟩) (na + 1) c7)) := Chg.set _ _ _ _
    generalize w7.setCell ⟨K, 4, none⟩ (.slice (some ⟨g7, 0, none⟩) (na + 1) c7) = w8 at *
    have o8 := own_chgB o7 ks8 (fun g' hg' hm => by
      rw [List.mem_singleton] at hm
      subst hm
      obtain ⟨-, cur, hh⟩ := own_elem o7 hg'
      rw [show w7.heap[_]? = _ from B7] at hh
      cases hh)
    have k48 : Chg (K :: (Value.slice pa na ca).ownBlock.toList) w4 w8 := ((kA.mono (fun x hx _ => by cases hx)).then (k7.mono (fun x hx _ => List.mem_cons_of_mem _ hx))).then (ks8.mono (fun x hx _ => by simp at hx; simp [hx]))
    have tp4 : Tp w4 (K :: (Value.slice pa na ca).ownBlock.toList) [72, 39] := fun x hx => by
      rcases List.mem_cons.1 hx with rfl | hx
      · exact ⟨_, _, B4, by simp⟩
      · obtain ⟨-, cur, hh⟩ := own_elem hav4 (show (Value.slice pa na ca).ownBlock = some x by simpa using hx)
        exact ⟨_, _, hh, by simp⟩
    have hp8 := (hP cs2).keep _ _ _ hp4 k48 tp4 (fun x hx => by
      rcases List.mem_cons.1 hx with rfl | hx
      · exact hKl
      · exact (own_elem hav4 (show (Value.slice pa na ca).ownBlock = some x by simpa using hx)).1)
    have nin : ∀ x, K < x → z ≤ x → x ∉ K :: (Value.slice pa na ca).ownBlock.toList := fun x h1 h2 hx => by
      rcases List.mem_cons.1 hx with e | hx
      · omega
      · have := HZo.out x (by simpa using hx)
        omega
    have y8 := k48.heap y4 (nin z hKz (Nat.le_refl _))
    have b8 := k48.heap b4 (nin zb hKb (by omega))
    have hsz8 := k48.size
    have hg7z : g7 ≠ z := by
      rcases n7 with h | h
      · have := HZo.out g7 h
        omega
      · have h1 := heap_lt y4
        have h2 := kA.size
        have h' : g7 = (w4.alloc (.cells #[.int .i64 x0, .int .i64 x1, .int .i64 x2, .int .i64 x3, .slice none 0 0] 39)).drew.heap.size := h
        omega
    clear B4 hp4 y4 b4 hav4 e24 HB4 o7 k7 n7 B7 s8 f8 kA yA sA BA oA hlA s4 s4d d0 d1 d2 d3 d4 d0d d1d d2d d3d d4d k48 tp4 ks8
    have d0 := cell_is b8 0 rfl
    have d1 := cell_is b8 1 rfl
    have d2 := cell_is b8 2 rfl
    have d3 := cell_is b8 3 rfl
    have d4 := cell_is b8 4 rfl
    have HK8 := Lib.hid (And.intro B8 (And.intro hp8 o8))
    clear B8 hp8 o8
    go_wp2_with fail
    refine (kept_nil w8).mono ?_
    rintro e w9 ⟨rfl, k9⟩
    have y9 := k9.heap y8 (by simp)
    have t0 := cell_is y9 0 rfl
    have t1 := cell_is y9 1 rfl
    have t2 := cell_is y9 2 rfl
    have t3 := cell_is y9 3 rfl
    have t4 := cell_is y9 4 rfl
    have e0 := unfrozen y9 0
    have e1 := unfrozen y9 1
    have e2 := unfrozen y9 2
    have e3 := unfrozen y9 3
    have e4 := unfrozen y9 4
    go_wp2_with fail
    obtain ⟨y11, k11⟩ := set5 (.int .i64 x0) (.int .i64 x1) (.int .i64 x2) (.int .i64 x3) (.slice none 0 0) y9
    generalize ((((w9.setCell ⟨z, 0, none⟩ (.int .i64 x0)).setCell ⟨z, 1, none⟩ (.int .i64 x1)).setCell ⟨z, 2, none⟩ (.int .i64 x2)).setCell ⟨z, 3, none⟩ (.int .i64 x3)).setCell ⟨z, 4, none⟩ (.slice none 0 0) = w10 at *
    have r0 := cell_is y11 0 rfl
    have r1 := cell_is y11 1 rfl
    have r2 := cell_is y11 2 rfl
    have r3 := cell_is y11 3 rfl
    have r4 := cell_is y11 4 rfl
    obtain ⟨B8, hp8, o8⟩ := HK8.out
    have kf : Chg [z] w8 w10 := (k9.mono (fun x hx _ => by cases hx)).then k11
    have tp8 : Tp w8 [z] [39] := fun x hx => by
      rw [List.mem_singleton] at hx
      subst hx
      exact ⟨_, _, y8, by simp⟩
    refine bodyPost_ret (v := .tuple #[.agg #[.int .i64 x0, .int .i64 x1, .int .i64 x2, .int .i64 x3, .slice none 0 0], .int .i64 0]) (by simp [results, Tryz.results10, go_sem, r0, r1, r2, r3, r4]) rfl ?_
    refine ⟨rfl, _, cs2, (hP cs2).box hp8 kf tp8 (fun x hx => by rw [List.mem_singleton] at hx; omega), (by rw [HCut.out]; exact kf.heap B8 (by intro hm; rw [List.mem_singleton] at hm; omega)), own_chgB o8 kf (fun g' hg' hm => ?_)⟩
    rw [List.mem_singleton] at hm
    cases hg'
    exact hg7z hm
end Go.Proofs.YtliicpedddcfiaaGreat
namespace Go.Proofs.YtliicpedddcfiaaGreat
open Go.RowKit Go.Lib

set_option maxRecDepth 100000 in
set_option maxHeartbeats 8000000 in
theorem step_wait (w : World) {K P0 lw g o m c : Nat} {P : Array Value → World → Prop} {cs : Array Value} {kind oh oa ol ev x0 x1 x2 x3 : Int} {pp : Option Addr} {pn pc : Nat} {q : Bool} (hlw : lw ≤ w.heap.size) (hKl : lw ≤ K) (hP : ∀ cs, Cl lw (P cs))
    (hB : SchB w K cs) (h1 : cs[1]? = some (.pointer (some ⟨P0, 0, none⟩))) (h2 : cs[2]? = some (.slice (some ⟨g, o, none⟩) (m + 1) c)) (h35 : cs[35]? = some (.int .i64 ev)) (hev : 0 ≤ ev ∧ ev ≤ 1000000) (_hc : m + 1 ≤ c)
    (u0 : w.cell? ⟨g, o, none⟩ = some (.int .i64 kind)) (u1 : w.cell? ⟨g, o + 1, none⟩ = some (.int .i64 oh)) (u2 : w.cell? ⟨g, o + 2, none⟩ = some (.int .i64 oa)) (u3 : w.cell? ⟨g, o + 3, none⟩ = some (.int .i64 ol)) (u4 : w.cell? ⟨g, o + 4, none⟩ = some (.slice pp pn pc)) (hgK : g ≠ K)
    (HD : ∀ wx, Chg [K] w wx → SchB wx K (cs.setIfInBounds 35 (.int .i64 (ev + 1))) → Calls Tryz.prog 22 #[.pointer (some ⟨K, 0, none⟩), .pointer (some ⟨K, 2, none⟩), .agg #[.int .i64 kind, .int .i64 oh, .int .i64 oa, .int .i64 ol, .slice pp pn pc]] wx (DoR wx K P x0 x1 x2 x3 false))
    (hQ : ∀ cs2 w2, P cs2 w2 → cs2[5]? = some (.bool q)) :
    Calls Tryz.prog 10 #[.pointer (some ⟨K, 0, none⟩), .int .i64 1] w fun e w' => e = .returned (.tuple #[.agg #[.int .i64 0, .int .i64 0, .int .i64 0, .int .i64 0, .slice none 0 0], .int .i64 16]) ∧ ∃ cs2, P cs2 w' ∧ SchB w' K (cs2.setIfInBounds 5 (.bool true)) ∧ K66 w w' := by
  have k0 : Chg [] w (w.alloc (.cells #[.int .i64 0, .int .i64 0, .int .i64 0, .int .i64 0, .slice none 0 0] 39)) := Chg.alloc w _
  have y0 := heap_new w (.cells #[.int .i64 0, .int .i64 0, .int .i64 0, .int .i64 0, .slice none 0 0] 39)
  generalize hw0 : w.alloc (.cells #[.int .i64 0, .int .i64 0, .int .i64 0, .int .i64 0, .slice none 0 0] 39) = w0 at *
  generalize hz : w.heap.size = z at *
  have hKz : K < z := by rw [← hz]; exact heap_lt hB
  have hzl := heap_lt y0
  have B0 : SchB w0 K cs := k0.heap hB (by simp)
  have HCl : Hid (Calls Tryz.prog 19 #[.pointer (some ⟨K, 0, none⟩), .int .i64 1] w0 fun e w' => e = .returned (.pointer (some ⟨K, 2, none⟩)) ∧ w0 = w') := Lib.hid (client_in w0 B0 h1 ⟨by decide, by decide⟩)
  have c35 := cell_is B0 35 h35
  have f35 := unfrozen B0 35
  have n1 : IntKind.i64.wrap (ev + 1) = ev + 1 := by rw [IntKind.wrap_i64]; omega
  have hs35 : 35 < cs.size := (Array.getElem?_eq_some_iff.1 h35).1
  have HQ0 := Lib.hid (And.intro h2 hQ)
  have HU := Lib.hid (And.intro u0 (And.intro u1 (And.intro u2 (And.intro u3 u4))))
  have HDo := Lib.hid HD
  have HB := Lib.hid (And.intro hB (And.intro k0 (And.intro y0 B0)))
  clear hB h1 h35 u0 u1 u2 u3 u4 HD hQ k0 y0 B0 h2
  go_enter Tryz.func10, Tryz.ntmps10
  go_wp2_with fail
  refine HCl.out.mono ?_
  rintro e w1 ⟨rfl, rfl⟩
  go_upto_region 5 with fail
  obtain ⟨hB, k0, y0, B0⟩ := HB.out
  have kw0 : K66 w w0 := K66.of0 k0
  have B1 : SchB (w0.setCell ⟨K, 35, none⟩ (.int .i64 (ev + 1))) K (cs.setIfInBounds 35 (.int .i64 (ev + 1))) := heap_set B0 35 _ rfl
  have k1 : Chg [K] w0 (w0.setCell ⟨K, 35, none⟩ (.int .i64 (ev + 1))) := Chg.set _ _ _ _
  generalize w0.setCell ⟨K, 35, none⟩ (.int .i64 (ev + 1)) = w1 at *
  have k01 : Chg [K] w w1 := (k0.mono (fun x hx _ => by cases hx)).then k1
  have y1 := k1.heap y0 (by simp; omega)
  have c2 : w1.cell? ⟨K, 2, none⟩ = some (.slice (some ⟨g, o, none⟩) (m + 1) c) := cell_is B1 2 (by rw [Array.getElem?_setIfInBounds_ne (by decide)]; exact HQ0.out.1)
  have u0 := k01.cell HU.out.1 (by simpa using hgK)
  have u1 := k01.cell HU.out.2.1 (by simpa using hgK)
  have u2 := k01.cell HU.out.2.2.1 (by simpa using hgK)
  have u3 := k01.cell HU.out.2.2.2.1 (by simpa using hgK)
  have u4 := k01.cell HU.out.2.2.2.2 (by simpa using hgK)
  have n2 : decide (((m + 1 : Nat) : Int) = 0) = false := decide_eq_false (by omega)
  have n3 : decide ((m : Int) + 1 = 0) = false := decide_eq_false (by omega)
  have n4 : ¬ ((m : Int) + 1 = 0) := by omega
  have HD1 := Lib.hid (HDo.out w1 k01 B1)
  have kw1 : K66 w w1 := fun x cs3 hx => k1.heap (kw0 x cs3 hx) (by
    intro hm
    rw [List.mem_singleton] at hm
    subst hm
    have := kw0 x cs3 hx
    rw [show w0.heap[_]? = _ from B0] at this
    cases this)
  have HX1 := Lib.hid (And.intro y1 kw1)
  clear hB k0 y0 B0 kw0 kw1 B1 k1 y1 c35 f35 n1 HB HDo HCl
  go_wp2_with fail
  refine HD1.out.mono ?_
  rintro e w2 ⟨rfl, cs2, hp, hK2, h66⟩
  have HQ := Lib.hid (And.intro HQ0.out.1 (HQ0.out.2 cs2 w2 hp))
  have y2 := h66 _ _ HX1.out.1
  have hs12 : z < w2.heap.size := heap_lt y2
  have kw2 := HX1.out.2.trans h66
  have k3 : Chg [] w2 (w2.alloc (.cells #[.int .i64 x0, .int .i64 x1, .int .i64 x2, .int .i64 x3, .slice none 0 0] 39)) := Chg.alloc w2 _
  have B3 : SchB (w2.alloc (.cells #[.int .i64 x0, .int .i64 x1, .int .i64 x2, .int .i64 x3, .slice none 0 0] 39)) K cs2 := k3.heap hK2 (by simp)
  have y3 := k3.heap y2 (by simp)
  have HX2 := Lib.hid (And.intro hp (And.intro hK2 (And.intro y2 (And.intro kw2 (And.intro k3 (And.intro B3 y3))))))
  clear hp hK2 h66 c2 u0 u1 u2 u3 u4 n2 n3 n4 y2 kw2 k3 B3 y3
  go_upto_region 8 with fail
  obtain ⟨hp, hK2, y2, kw2, k3, B3, y3⟩ := HX2.out
  generalize w2.alloc (.cells #[.int .i64 x0, .int .i64 x1, .int .i64 x2, .int .i64 x3, .slice none 0 0] 39) = w3 at *
  have hp3 := (hP cs2).box hp k3 (fun x hx => by cases hx) (fun x hx => by cases hx)
  have kw3 := kw2.trans (K66.of0 k3)
  have c5 := cell_is B3 5 HQ.out.2
  have f5 := unfrozen B3 5
  have B4 : SchB (w3.setCell ⟨K, 5, none⟩ (.bool true)) K (cs2.setIfInBounds 5 (.bool true)) := heap_set B3 5 _ rfl
  have k4 : Chg [K] w3 (w3.setCell ⟨K, 5, none⟩ (.bool true)) := Chg.set _ _ _ _
  have HX4 := Lib.hid (And.intro hp3 (And.intro kw3 (And.intro B4 (And.intro k4 (And.intro B3 y3)))))
  clear hp hK2 y2 kw2 k3 HX2 hp3 kw3 B4 k4 y3
  go_upto_region 10 with fail
  obtain ⟨hp3, kw3, B4, k4, B3', y3⟩ := HX4.out
  generalize w3.setCell ⟨K, 5, none⟩ (.bool true) = w4 at *
  have hp4 := (hP cs2).keep _ _ _ hp3 k4 (fun x hx => by
    rw [List.mem_singleton] at hx
    subst hx
    exact ⟨_, _, B3, by simp⟩) (fun x hx => by rw [List.mem_singleton] at hx; omega)
  have kw4 : K66 w w4 := fun x cs3 hx => k4.heap (kw3 x cs3 hx) (by
    intro hm
    rw [List.mem_singleton] at hm
    subst hm
    have := kw3 x cs3 hx
    rw [show w3.heap[_]? = _ from B3] at this
    cases this)
  have y4 := k4.heap y3 (by simp; omega)
  have t0 := cell_is y4 0 rfl
  have t1 := cell_is y4 1 rfl
  have t2 := cell_is y4 2 rfl
  have t3 := cell_is y4 3 rfl
  have t4 := cell_is y4 4 rfl
  have e0 := unfrozen y4 0
  have e1 := unfrozen y4 1
  have e2 := unfrozen y4 2
  have e3 := unfrozen y4 3
  have e4 := unfrozen y4 4
  have HX5 := Lib.hid (And.intro hp4 (And.intro kw4 (And.intro B4 y4)))
  clear hp3 kw3 B4 k4 B3' y3 hp4 kw4 y4 HX4 c5 f5 B3
  go_wp2_with fail
  obtain ⟨hp4, kw4, B4, y4⟩ := HX5.out
  obtain ⟨y11, k11⟩ := set5 (.int .i64 0) (.int .i64 0) (.int .i64 0) (.int .i64 0) (.slice none 0 0) y4
  generalize ((((w4.setCell ⟨z, 0, none⟩ (.int .i64 0)).setCell ⟨z, 1, none⟩ (.int .i64 0)).setCell ⟨z, 2, none⟩ (.int .i64 0)).setCell ⟨z, 3, none⟩ (.int .i64 0)).setCell ⟨z, 4, none⟩ (.slice none 0 0) = w10 at *
  have r0 := cell_is y11 0 rfl
  have r1 := cell_is y11 1 rfl
  have r2 := cell_is y11 2 rfl
  have r3 := cell_is y11 3 rfl
  have r4 := cell_is y11 4 rfl
  have tp8 : Tp w4 [z] [39] := fun x hx => by
    rw [List.mem_singleton] at hx
    subst hx
    exact ⟨_, _, y4, by simp⟩
  refine bodyPost_ret (v := .tuple #[.agg #[.int .i64 0, .int .i64 0, .int .i64 0, .int .i64 0, .slice none 0 0], .int .i64 16]) (by simp [results, Tryz.results10, go_sem, r0, r1, r2, r3, r4]) rfl ?_
  exact ⟨rfl, cs2, (hP cs2).box hp4 k11 tp8 (fun x hx => by rw [List.mem_singleton] at hx; omega), k11.heap B4 (by intro hm; rw [List.mem_singleton] at hm; omega), kw4.new k11 (fun x hx => by rw [List.mem_singleton] at hx; omega)⟩
set_option maxRecDepth 100000 in
set_option maxHeartbeats 4000000 in
theorem sched_flush (w : World) {K P0 : Nat} {cs : Array Value} {ev r : Int} {Q : World → Prop} (hB : SchB w K cs) (h1 : cs[1]? = some (.pointer (some ⟨P0, 0, none⟩))) (h35 : cs[35]? = some (.int .i64 ev)) (hev : 0 ≤ ev ∧ ev ≤ 1000000)
    (HF : ∀ wx, Chg [K] w wx → SchB wx K (cs.setIfInBounds 35 (.int .i64 (ev + 1))) → Calls Tryz.prog 26 #[.pointer (some ⟨P0, 0, none⟩)] wx fun e w' => e = .returned (.int .i64 r) ∧ Q w') :
    Calls Tryz.prog 13 #[.pointer (some ⟨K, 0, none⟩)] w fun e w' => e = .returned (.int .i64 r) ∧ Q w' := by
  have HG := Lib.hid (sgone_any w hB h1)
  have c35 := cell_is hB 35 h35
  have f35 := unfrozen hB 35
  have n1 : IntKind.i64.wrap (ev + 1) = ev + 1 := by rw [IntKind.wrap_i64]; omega
  have B1 : SchB (w.setCell ⟨K, 35, none⟩ (.int .i64 (ev + 1))) K (cs.setIfInBounds 35 (.int .i64 (ev + 1))) := heap_set hB 35 _ rfl
  have k1 : Chg [K] w (w.setCell ⟨K, 35, none⟩ (.int .i64 (ev + 1))) := Chg.set _ _ _ _
  have c1 := cell_is B1 1 (show (cs.setIfInBounds 35 (.int .i64 (ev + 1)))[1]? = _ from by rw [Array.getElem?_setIfInBounds_ne (by decide)]; exact h1)
  have HFl := Lib.hid (HF _ k1 B1)
  clear hB h1 h35 B1 k1 HF
  go_enter Tryz.func13, Tryz.ntmps13
  go_wp2_with fail
  refine HG.out.mono ?_
  rintro e w1 ⟨rfl, rfl⟩
  go_upto_region 4 with fail
  generalize w.setCell ⟨K, 35, none⟩ (.int .i64 (ev + 1)) = w2 at *
  go_wp2_with fail
  refine HFl.out.mono ?_
  rintro e w3 ⟨rfl, hq⟩
  have HQ := Lib.hid hq
  clear hq
  go_wp2_with fail
  go_ret
  exact ⟨rfl, HQ.out⟩
end Go.Proofs.YtliicpedddcfiaaGreat
namespace Go.Proofs.YtliicpedddcfiaaGreat.Co
open Go.RowKit Go.Lib

set_option maxRecDepth 100000 in
set_option maxHeartbeats 4000000 in
theorem ccall_write (w : World) {oo : Nat} {K Bb base E c cd D n : Nat} {d : Ids} {p : Par} {F : World → Prop} {q : Int → List UInt8} {L : List (Int × Value)} {cs bc : Array Value} {oh oa ol b : Int} {l : List UInt8} (hB : SchB w K cs) (h1 : cs[1]? = some (.pointer (some ⟨d.P, 0, none⟩)))
    (hb : w.heap[Bb]? = some (.cells bc 85 (0, 0))) (hbc : bc[0]? = some (.int .i64 p.h)) (hf : Fr base d p F) (h : Su w base d p F q L n) (e0 : w.cell? ⟨E, 0, none⟩ = some (.int .i64 b)) (e1 : w.cell? ⟨E, 1, none⟩ = some (.slice (some ⟨D, 0, none⟩) 40 cd)) (hbs : Bs w (some ⟨D, 0, none⟩) l) (hl : l.length = 40) (h0 : 0 ≤ b) (h2 : b < 258) (hroom : L.length ≤ 15) :
    Calls Tryz.prog 51 #[.pointer (some ⟨K, 0, none⟩), .pointer (some ⟨K, oo, none⟩), .pointer (some ⟨Bb, 0, none⟩), .agg #[.int .i64 3, .int .i64 oh, .int .i64 oa, .int .i64 ol, .slice (some ⟨E, 0, none⟩) 1 c], .agg #[.int .i64 3, .int .i64 0, .int .i64 oh, .int .i64 0, .slice none 0 0]] w fun e w' =>
      e = .returned (.tuple #[.agg #[.int .i64 3, .int .i64 0, .int .i64 oh, .int .i64 0, .slice none 0 0], .bool true]) ∧ Ow base w w' ∧ ∃ v, Su w' base d p F (putQ q b l) (putL L b v) n := by
  have kk : Chg [] w (((w.alloc (.cells #[.int .i64 3, .int .i64 oh, .int .i64 oa, .int .i64 ol, .slice (some ⟨E, 0, none⟩) 1 c] 33)).alloc (.cells #[.int .i64 3, .int .i64 0, .int .i64 oh, .int .i64 0, .slice none 0 0] 39)).alloc (.cells #[.int .i64 0, .int .i64 0, .int .i64 0, .int .i64 0, .slice none 0 0] 39)) := ((Chg.alloc w _).then_alloc _).then_alloc _
  obtain ⟨y1, y2, y3⟩ := heap_new3 w (.cells #[.int .i64 3, .int .i64 oh, .int .i64 oa, .int .i64 ol, .slice (some ⟨E, 0, none⟩) 1 c] 33) (.cells #[.int .i64 3, .int .i64 0, .int .i64 oh, .int .i64 0, .slice none 0 0] 39) (.cells #[.int .i64 0, .int .i64 0, .int .i64 0, .int .i64 0, .slice none 0 0] 39)
  generalize hw0 : ((w.alloc (.cells #[.int .i64 3, .int .i64 oh, .int .i64 oa, .int .i64 ol, .slice (some ⟨E, 0, none⟩) 1 c] 33)).alloc (.cells #[.int .i64 3, .int .i64 0, .int .i64 oh, .int .i64 0, .slice none 0 0] 39)).alloc (.cells #[.int .i64 0, .int .i64 0, .int .i64 0, .int .i64 0, .slice none 0 0] 39) = w0 at *
  have hz1 := heap_lt y1
  generalize hz : w.heap.size = z at *
  have k1 : w0.cell? ⟨K, 1, none⟩ = some (.pointer (some ⟨d.P, 0, none⟩)) := kk.cell (cell_is hB 1 h1) (by simp)
  have b0 : w0.cell? ⟨Bb, 0, none⟩ = some (.int .i64 p.h) := kk.cell (cell_is hb 0 hbc) (by simp)
  have z0 := cell_is y1 0 rfl
  have z4 := cell_is y1 4 rfl
  have kd : Chg [] w w0.drew := kk.drew
  have HW := Lib.hid (swrite_gen w0.drew (cp := c) hf (h.keep hf kd) (kd.cell e0 (by simp)) (kd.cell e1 (by simp)) (hbs.keep kd.below0) hl h0 h2 hroom)
  have y2d : w0.drew.heap[z + 1]? = _ := y2
  have y3d : w0.drew.heap[z + 2]? = _ := y3
  have HX := Lib.hid (And.intro y2d (And.intro y3d (And.intro kd (show w0.drew.heap.size = w0.heap.size from rfl))))
  have HF := Lib.hid hf
  have HE := Lib.hid h.env
  have hbz : base ≤ z := by have h9 := h.high.1; have : d.Q < w.heap.size := (by obtain ⟨v, m, xs, hv, -⟩ := h.vw; exact heap_lt hv); omega
  clear hB h1 hb hbc hf h e0 e1 hbs y2 y3 y2d y3d kk
  go_enter Tryz.func51, Tryz.ntmps51
  go_wp2_with fail
  go_still_tail 10, (by kernel_rfl)
  change wpList _ _ _ _ _ w0.drew
  generalize w0.drew = w1 at *
  go_wp2_with fail
  refine HW.out.mono ?_
  rintro e w2 ⟨v, rfl, hO, hS⟩
  obtain ⟨y2d, y3d, kd, hsd⟩ := HX.out
  have u2 := hO.heap y2d ⟨by decide, by decide, by decide⟩
  have u3 := hO.heap y3d ⟨by decide, by decide, by decide⟩
  have q1 := cell_is u2 1 rfl
  have g1 := unfrozen u2 1
  have HR := Lib.hid (And.intro hO (And.intro hS (And.intro kd y2d)))
  clear hO hS kd y2d y3d
  go_upto_region 12 with fail
  have v2 : (w2.setCell ⟨z + 1, 1, none⟩ (.int .i64 0)).heap[z + 1]? = some (.cells #[.int .i64 3, .int .i64 0, .int .i64 oh, .int .i64 0, .slice none 0 0] 39 (0, 0)) := heap_set u2 1 _ rfl
  have v3 := heap_set_ne u3 (show z + 2 ≠ z + 1 by omega) 1 (.int .i64 0)
  have ks : Chg [z + 1] w2 (w2.setCell ⟨z + 1, 1, none⟩ (.int .i64 0)) := Chg.set _ _ _ _
  generalize w2.setCell ⟨z + 1, 1, none⟩ (.int .i64 0) = w3 at *
  have d0 := cell_is v2 0 rfl
  have d1 := cell_is v2 1 rfl
  have d2 := cell_is v2 2 rfl
  have d3 := cell_is v2 3 rfl
  have d4 := cell_is v2 4 rfl
  have t0 := cell_is v3 0 rfl
  have t1 := cell_is v3 1 rfl
  have t2 := cell_is v3 2 rfl
  have t3 := cell_is v3 3 rfl
  have t4 := cell_is v3 4 rfl
  have f0 := unfrozen v3 0
  have f1 := unfrozen v3 1
  have f2 := unfrozen v3 2
  have f3 := unfrozen v3 3
  have f4 := unfrozen v3 4
  clear q1 g1
  go_wp2_with fail
  obtain ⟨y11, k11⟩ := set5 (.int .i64 3) (.int .i64 0) (.int .i64 oh) (.int .i64 0) (.slice none 0 0) v3
  generalize ((((w3.setCell ⟨z + 2, 0, none⟩ (.int .i64 3)).setCell ⟨z + 2, 1, none⟩ (.int .i64 0)).setCell ⟨z + 2, 2, none⟩ (.int .i64 oh)).setCell ⟨z + 2, 3, none⟩ (.int .i64 0)).setCell ⟨z + 2, 4, none⟩ (.slice none 0 0) = w4 at *
  have r0 := cell_is y11 0 rfl
  have r1 := cell_is y11 1 rfl
  have r2 := cell_is y11 2 rfl
  have r3 := cell_is y11 3 rfl
  have r4 := cell_is y11 4 rfl
  obtain ⟨hO, hS, kd, y2d⟩ := HR.out
  have kf : Chg [z + 1, z + 2] w2 w4 := (ks.mono (fun x hx _ => by simp at hx; simp [hx])).then (k11.mono (fun x hx _ => by simp at hx; simp [hx]))
  have tp : Tp w2 [z + 1, z + 2] [39] := fun x hx => by
    simp at hx
    rcases hx with rfl | rfl
    · exact ⟨_, _, u2, by simp⟩
    · exact ⟨_, _, u3, by simp⟩
  have hOf : Ow base w w4 := by
    obtain ⟨T, hT1, hT2⟩ := (Ow.of_chg (base := base) kd).trans hO
    refine ⟨T, hT1.trans kf (fun x hx hlt => by simp at hx; omega), hT2⟩
  refine bodyPost_ret (v := .tuple #[.agg #[.int .i64 3, .int .i64 0, .int .i64 oh, .int .i64 0, .slice none 0 0], .bool true]) (by simp [results, Tryz.results51, go_sem, r0, r1, r2, r3, r4]) rfl ?_
  exact ⟨rfl, hOf, v, hS.keepA kf (tp.av (by decide)) (tp.map hS.buf.2) (HF.out.keep w w4 hOf HE.out)⟩
end Go.Proofs.YtliicpedddcfiaaGreat.Co
