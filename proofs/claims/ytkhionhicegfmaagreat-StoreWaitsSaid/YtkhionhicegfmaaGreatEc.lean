/- Lemmas and walks: Walks: ops wait: Add of a schedule. Walks: a store with f flushed, k that wait and m that are open. Walks: a crash behind what waits; how many wait and are open; a handle that is none. Its head is printed by mkUh.py. Walks: how many wait and are open; a handle that is none; a crash behind what waits. -/
import Derived.Test.YtkhionhicegfmaaGreatDk
import Derived.Test.YtkhionhicegfmaaGreatDl
import Derived.Test.YtkhionhicegfmaaGreatEb
namespace Go.Proofs.YtkhionhicegfmaaGreat
open Go.RowKit Go.Lib

theorem ty78 : Tryz.prog.underlying 78 = some (.slice 64) := by kernel_rfl
theorem inf64 : (Tryz.prog.info? 64).map (fun i => (i.zero, i.size, i.bytes)) = some (some (.agg #[.int .i64 0, .int .i64 0, .int .i64 0, .int .i64 0, .slice none 0 0]), 5, 56) := by kernel_rfl
/-- an op: its numbers and its put, if it has one. -/
structure OpS where
  k : Int
  h : Int
  a : Int
  l : Int
  p : Option (Int × List UInt8)
/-- these cells are an op that was given. -/
def OpG (w : World) (s : OpS) (u : List Value) : Prop :=
  ∃ pv, u = [.int .i64 s.k, .int .i64 s.h, .int .i64 s.a, .int .i64 s.l, pv] ∧
    ((s.p = none ∧ pv = .slice none 0 0) ∨ ∃ b dl E eo c D cd, s.p = some (b, dl) ∧ pv = .slice (some ⟨E, eo, none⟩) 1 c ∧ w.cell? ⟨E, eo, none⟩ = some (.int .i64 b) ∧ w.cell? ⟨E, eo + 1, none⟩ = some (.slice (some ⟨D, 0, none⟩) 40 cd) ∧ Bs w (some ⟨D, 0, none⟩) dl ∧ dl.length = 40 ∧ ∃ eb db, w.heap[E]? = some (.cells eb 43 (0, 0)) ∧ w.heap[D]? = some (.cells db 5 (0, 0)))
/-- these cells are an op of one's own. -/
def OpV (w : World) (lo : Nat) (s : OpS) (u : List Value) : Prop :=
  ∃ pv, u = [.int .i64 s.k, .int .i64 s.h, .int .i64 s.a, .int .i64 s.l, pv] ∧
    ((s.p = none ∧ pv = .slice none 0 0) ∨ ∃ b dl, s.p = some (b, dl) ∧ PutOf w lo pv b dl)
def OpsL (w : World) (lo : Nat) : List OpS → List Value → Prop
  | [], xs => xs = []
  | s :: ss, xs => ∃ u ys, xs = u ++ ys ∧ OpV w lo s u ∧ OpsL w lo ss ys
theorem OpV.keepT {w w' : World} {U : List Nat} {lo : Nat} {s : OpS} {u : List Value} (h : OpV w lo s u) (hc : Chg U w w') (hU : ∀ x ∈ U, x < w.heap.size → ∀ cs t fr, w.heap[x]? = some (.cells cs t fr) → t ≠ 43 ∧ t ≠ 5) : OpV w' lo s u := by
  obtain ⟨pv, h1, h2 | ⟨b, dl, h2, h3⟩⟩ := h
  · exact ⟨pv, h1, Or.inl h2⟩
  · exact ⟨pv, h1, Or.inr ⟨b, dl, h2, h3.keepT hc hU⟩⟩
theorem OpV.low {w : World} {lo lo' : Nat} {s : OpS} {u : List Value} (h : OpV w lo s u) (hl : lo' ≤ lo) : OpV w lo' s u := by
  obtain ⟨pv, h1, h2 | ⟨b, dl, h2, E, c, D, cd, cs, h3, h4, h5, h6⟩⟩ := h
  · exact ⟨pv, h1, Or.inl h2⟩
  · exact ⟨pv, h1, Or.inr ⟨b, dl, h2, E, c, D, cd, cs, h3, by omega, by omega, h6⟩⟩
theorem OpV.form {w : World} {lo : Nat} {s : OpS} {u : List Value} (h : OpV w lo s u) : ∃ pp pn pc, u = [.int .i64 s.k, .int .i64 s.h, .int .i64 s.a, .int .i64 s.l, .slice pp pn pc] := by
  obtain ⟨pv, rfl, ⟨-, rfl⟩ | ⟨b, dl, -, E, c, D, cd, cs, rfl, -⟩⟩ := h <;> exact ⟨_, _, _, rfl⟩
theorem OpV.len {w : World} {lo : Nat} {s : OpS} {u : List Value} (h : OpV w lo s u) : u.length = 5 := by
  obtain ⟨pv, h1, -⟩ := h
  rw [h1]; rfl
theorem OpsL.keepT {w w' : World} {U : List Nat} {lo : Nat} {ss : List OpS} {xs : List Value} (h : OpsL w lo ss xs) (hc : Chg U w w') (hU : ∀ x ∈ U, x < w.heap.size → ∀ cs t fr, w.heap[x]? = some (.cells cs t fr) → t ≠ 43 ∧ t ≠ 5) : OpsL w' lo ss xs := by
  induction ss generalizing xs with
  | nil => exact h
  | cons s ss ih =>
    obtain ⟨u, ys, h1, h2, h3⟩ := h
    exact ⟨u, ys, h1, h2.keepT hc hU, ih h3⟩
theorem OpsL.snoc {w : World} {lo : Nat} {ss : List OpS} {xs : List Value} {s : OpS} {u : List Value} (h : OpsL w lo ss xs) (hu : OpV w lo s u) : OpsL w lo (ss ++ [s]) (xs ++ u) := by
  induction ss generalizing xs with
  | nil =>
    rw [show xs = [] from h]
    exact ⟨u, [], by simp, hu, rfl⟩
  | cons s ss ih =>
    obtain ⟨u', ys, h1, h2, h3⟩ := h
    exact ⟨u', ys ++ u, by rw [h1, List.append_assoc], h2, ih h3⟩
theorem OpG.keepT {w w' : World} {U : List Nat} {s : OpS} {u : List Value} (h : OpG w s u) (hc : Chg U w w') (hU : ∀ x ∈ U, x < w.heap.size → ∀ cs t fr, w.heap[x]? = some (.cells cs t fr) → t ≠ 43 ∧ t ≠ 5) : OpG w' s u := by
  obtain ⟨pv, h1, h2 | ⟨b, dl, E, eo, c, D, cd, h2, h3, h4, h5, h6, h7, eb, db, h8, h9⟩⟩ := h
  · exact ⟨pv, h1, Or.inl h2⟩
  · have nE : E ∉ U := fun hx => (hU E hx (heap_lt h8) _ _ _ h8).1 rfl
    have nD : D ∉ U := fun hx => (hU D hx (heap_lt h9) _ _ _ h9).2 rfl
    exact ⟨pv, h1, Or.inr ⟨b, dl, E, eo, c, D, cd, h2, h3, hc.cell h4 nE, hc.cell h5 nE, h6.chgB hc nD, h7, eb, db, hc.heap h8 nE, hc.heap h9 nD⟩⟩
/-- an op is made one's own. -/
theorem own_any (w : World) {s : OpS} {u : List Value} (h : OpG w s u) : Calls Tryz.prog 84 #[.agg u.toArray] w fun e w' => ∃ u', e = .returned (.agg u'.toArray) ∧ Chg [] w w' ∧ OpV w' w.heap.size s u' := by
  obtain ⟨pv, rfl, ⟨h2, rfl⟩ | ⟨b, dl, E, eo, c, D, cd, h2, rfl, h4, h5, h6, h7, -⟩⟩ := h
  · refine (own_none w).mono ?_
    rintro e w' ⟨rfl, hc⟩
    exact ⟨_, rfl, hc, _, rfl, Or.inl ⟨h2, rfl⟩⟩
  · refine (own_one w h4 h5 h6 h7).mono ?_
    rintro e w' ⟨pv, rfl, hc, hp⟩
    exact ⟨_, rfl, hc, _, rfl, Or.inr ⟨b, dl, h2, hp⟩⟩
theorem own_chgB {w w' : World} {S : List Nat} {base e size n : Nat} {v : Value} {xs : List Value} (h : w.ownsRow base e size v n xs) (hc : Chg S w w') (hS : ∀ g, v.ownBlock = some g → g ∉ S) : w'.ownsRow base e size v n xs := by
  refine ⟨h.1, ?_⟩
  rcases h.2 with ⟨e, h0⟩ | ⟨g, cap, cur, e, hA, hg, h3⟩
  · exact Or.inl ⟨e, h0⟩
  · exact Or.inr ⟨g, cap, cur, e, hA, hc.heap hg (hS g (by rw [e]; rfl)), h3⟩
theorem Chg.of_grownO {w w' : World} {ob : Option Nat} (h : w.grownBy w' ob) : Chg ob.toList w w' := by
  cases ob with
  | none => exact Chg.of_grown0 h
  | some g => exact Chg.of_grown h
/-- an op is put behind a row of ops, as a step of a region that draws. -/
theorem step_append_op {ops : Array Oper} {o : Oper} {a : Act} {w : World} {K : Act → World → Prop} {Q : Exit → Act → World → Prop} {E : Prop} (hgd : o.guard = none) (s x : Operand)
    (ho : o.op = .call { callee := .builtin .append, args := #[s, x], argTypes := #[78, 78] }) (base b c n : Nat) (v u0 u1 u2 u3 u4 : Value) (xs : List Value) (hs : a.eval s = v) (hown : w.ownsRow base 64 5 v n xs) (hbase : base ≤ w.heap.size) (hn : n ≤ 1000)
    (hx : a.eval x = .slice (some ⟨b, 0, none⟩) 1 c) (hb : w.heap[b]? = some (.cells #[u0, u1, u2, u3, u4] 64 (0, 0))) (h1 : u0.oneCell' = true ∧ u1.oneCell' = true ∧ u2.oneCell' = true ∧ u3.oneCell' = true ∧ u4.oneCell' = true)
    (h : ∀ g cap w', w'.ownsRow base 64 5 (.slice (some ⟨g, 0, none⟩) (n + 1) cap) (n + 1) (xs ++ [u0, u1, u2, u3, u4]) → Chg v.ownBlock.toList w w' → (v.ownBlock = some g ∨ g = w.heap.size) → K (a.put o.dst (.slice (some ⟨g, 0, none⟩) (n + 1) cap)) w') :
    if Region.wanted o (yielded ops a.tmps) = true then Oper.wp Tryz.prog o a w K Q else E := by
  obtain ⟨i, hi0, hz, hz1, hz2⟩ := info_parts inf64
  refine step_append_lies w hgd s x 78 ho base 64 i _ 5 56 ty78 hi0 hz hz1 hz2 rfl (by decide) v n xs hs hown ⟨b, 0, none⟩ 1 c [u0, u1, u2, u3, u4] hx rfl ?_ ?_ (by decide) (by unfold maxLen; omega) (by omega) hbase _ rfl ?_
  · intro j u hu
    rw [show (⟨b, 0, none⟩ : Addr).add j = ⟨b, 0 + j, none⟩ from by unfold Addr.add; split <;> simp_all, Nat.zero_add]
    exact cell_is hb j (by simpa using hu)
  · intro u hu
    simp at hu
    obtain ⟨h2, h3, h4, h5, h6⟩ := h1
    rcases hu with rfl | rfl | rfl | rfl | rfl <;> assumption
  · intro g cap w' h2 h3 h4 _
    exact h g cap w' h2 (Chg.of_grownO h3) h4
/-- the ops that are handed to Add: block E holds them. -/
def OpsG (w : World) (E : Nat) (ss : List OpS) : Prop :=
  (∃ eb, w.heap[E]? = some (.cells eb 64 (0, 0))) ∧ ∀ i s, ss[i]? = some s → ∃ u, OpG w s u ∧ ∀ j x, u[j]? = some x → w.cell? ⟨E, 5 * i + j, none⟩ = some x
theorem OpsG.keepT {w w' : World} {U : List Nat} {E : Nat} {ss : List OpS} (h : OpsG w E ss) (hc : Chg U w w') (hE : E ∉ U) (hU : ∀ x ∈ U, x < w.heap.size → ∀ cs t fr, w.heap[x]? = some (.cells cs t fr) → t ≠ 43 ∧ t ≠ 5) : OpsG w' E ss := by
  obtain ⟨⟨eb, h1⟩, h2⟩ := h
  refine ⟨⟨eb, hc.heap h1 hE⟩, fun i s hs => ?_⟩
  obtain ⟨u, h3, h4⟩ := h2 i s hs
  exact ⟨u, h3.keepT hc hU, fun j x hx => hc.cell (h4 j x hx) hE⟩
theorem own_not {w : World} {base e size n K t : Nat} {v : Value} {xs : List Value} {cs : Array Value} (h : w.ownsRow base e size v n xs) (hK : w.heap[K]? = some (.cells cs t (0, 0))) (ht : t ≠ e) : K ∉ v.ownBlock.toList := by
  intro hx
  obtain ⟨-, cur, hc⟩ := own_elem h (show v.ownBlock = some K by simpa using hx)
  rw [hc] at hK
  cases hK
  exact ht rfl
/-- what Add leaves behind i ops. -/
structure AddR (w wr : World) (K o lo : Nat) (cs : Array Value) (v : Value) (ss : List OpS) (cs' : Array Value) (v' : Value) (xs' : List Value) : Prop where
  blk : SchB wr K cs'
  at_ : cs'[o]? = some v'
  rest : ∀ j, j ≠ o → cs'[j]? = cs[j]?
  own : wr.ownsRow lo 64 5 v' ss.length xs'
  ops : OpsL wr lo ss xs'
  chg : Chg (K :: v.ownBlock.toList) w wr
  new : ∀ g, v'.ownBlock = some g → v.ownBlock = some g ∨ w.heap.size ≤ g
theorem AddR.step {w wr w5 w6 wa w7 : World} {K o lo j n g7 c7 : Nat} {cs cs' : Array Value} {v : Value} {old ss : List OpS} {pv' : Option Addr} {cv' : Nat} {xs' u' : List Value} (hr : AddR w wr K o lo cs v (old ++ ss.take j) cs' (.slice pv' n cv') xs') (hlt : j < ss.length) (hnn : n = old.length + j) (hnl : (old ++ ss.take j).length = old.length + j)
    (hav : ∀ x ∈ K :: v.ownBlock.toList, x < w.heap.size → ∀ cs t fr, w.heap[x]? = some (.cells cs t fr) → t ≠ 43 ∧ t ≠ 5) (kB : Chg [] wr w5) (k6 : Chg [] w5.drew w6) (hu6 : OpV w6 w5.drew.heap.size ss[j] u') (kA : Chg [] w6 wa) (o7 : w7.ownsRow lo 64 5 (.slice (some ⟨g7, 0, none⟩) (n + 1) c7) (n + 1) (xs' ++ u')) (k7 : Chg (Value.slice pv' n cv').ownBlock.toList wa w7) (n7 : (Value.slice pv' n cv').ownBlock = some g7 ∨ g7 = wa.heap.size) (B7 : SchB w7 K cs') (hlo : lo ≤ w.heap.size) :
    AddR w (w7.setCell ⟨K, o, none⟩ (.slice (some ⟨g7, 0, none⟩) (n + 1) c7)) K o lo cs v (old ++ ss.take (j + 1)) (cs'.setIfInBounds o (.slice (some ⟨g7, 0, none⟩) (n + 1) c7)) (.slice (some ⟨g7, 0, none⟩) (n + 1) c7) (xs' ++ u') := by
  have e1 : old ++ ss.take (j + 1) = (old ++ ss.take j) ++ [ss[j]] := by rw [List.take_succ_eq_append_getElem hlt, List.append_assoc]
  have kS : Chg [K] w7 (w7.setCell ⟨K, o, none⟩ (.slice (some ⟨g7, 0, none⟩) (n + 1) c7)) := Chg.set _ _ _ _
  have hsz := hr.chg.size
  have kra : Chg [] wr wa := (kB.drew.then k6).then kA
  have hown6 : wa.ownsRow lo 64 5 (.slice pv' n cv') n xs' := by
    have := hr.own
    rw [hnl, ← hnn] at this
    exact own_keep this kra.below0
  have hrow : ∀ x ∈ (Value.slice pv' n cv').ownBlock.toList, x < wa.heap.size → ∀ cs t fr, wa.heap[x]? = some (.cells cs t fr) → t ≠ 43 ∧ t ≠ 5 := by
    intro x hx _ cs2 t fr hh
    obtain ⟨-, cur, hc⟩ := own_elem hown6 (show (Value.slice pv' n cv').ownBlock = some x by simpa using hx)
    rw [hc] at hh
    cases hh
    exact ⟨by decide, by decide⟩
  have hKr : ∀ x ∈ [K], x < w7.heap.size → ∀ cs t fr, w7.heap[x]? = some (.cells cs t fr) → t ≠ 43 ∧ t ≠ 5 := by
    intro x hx _ cs2 t fr hh
    rw [List.mem_singleton] at hx
    subst hx
    rw [show w7.heap[x]? = _ from B7] at hh
    cases hh
    exact ⟨by decide, by decide⟩
  have hot : o < cs'.size := (Array.getElem?_eq_some_iff.1 hr.at_).1
  have hra : wr.heap.size ≤ w5.drew.heap.size := kB.size
  refine ⟨heap_set B7 o _ rfl, by rw [Array.getElem?_setIfInBounds_self_of_lt hot], fun i hi => by rw [Array.getElem?_setIfInBounds_ne (Ne.symm hi)]; exact hr.rest i hi, ?_, ?_, ?_, ?_⟩
  · rw [e1, List.length_append, hnl, ← hnn]
    refine own_chgB o7 kS (fun g hg => ?_)
    intro hm
    rw [List.mem_singleton] at hm
    subst hm
    obtain ⟨-, cur, hc⟩ := own_elem o7 hg
    rw [show w7.heap[g]? = _ from B7] at hc
    cases hc
  · rw [e1]
    refine OpsL.snoc ((((hr.ops.keepT kra (fun x hx => by cases hx)).keepT k7 hrow).keepT kS hKr)) ((((hu6.low (by omega)).keepT kA (fun x hx => by cases hx)).keepT k7 hrow).keepT kS hKr)
  · refine ((hr.chg.trans kra (fun x hx => by cases hx)).trans k7 (fun x hx hlt => ?_)).trans kS (fun x hx _ => by simp at hx; simp [hx])
    rcases hr.new x (by simpa using hx) with h | h
    · simp [h]
    · omega
  · intro g hg
    cases hg
    rcases n7 with h | h
    · exact hr.new _ h
    · right
      show w.heap.size ≤ g7
      have := kra.size
      omega
set_option maxRecDepth 100000 in
set_option maxHeartbeats 4000000 in
theorem sadd_ok (w : World) {K P E c lo : Nat} {a : Int} {cs : Array Value} {v : Value} {old ss : List OpS} {xs : List Value} (h : SchB w K cs) (h1 : cs[1]? = some (.pointer (some ⟨P, 0, none⟩))) (ha : 1 ≤ a ∧ a ≤ 8) (hv : cs[cli a]? = some v)
    (ho : w.ownsRow lo 64 5 v old.length xs) (hold : OpsL w lo old xs) (hlo : lo ≤ w.heap.size) (hE : OpsG w E ss) (hne : v.ownBlock ≠ some E) (hn : old.length + ss.length ≤ 200) :
    Calls Tryz.prog 34 #[.pointer (some ⟨K, 0, none⟩), .int .i64 a, .slice (some ⟨E, 0, none⟩) ss.length c] w fun e w' => e = .returned (.int .i64 0) ∧ ∃ cs' v' xs', AddR w w' K (cli a) lo cs v (old ++ ss) cs' v' xs' := by
  have HC := Lib.hid (client_in w h h1 ha)
  obtain ⟨pv, cv, rfl, hcv⟩ := own_form ho
  have c0 : w.cell? ⟨K, cli a, none⟩ = some (.slice pv old.length cv) := cell_is h _ hv
  have hR : AddR w w K (cli a) lo cs (.slice pv old.length cv) (old ++ ss.take 0) cs (.slice pv old.length cv) xs := ⟨h, hv, fun _ _ => rfl, by simpa using ho, by simpa using hold, Chg.refl _ _, fun g hg => Or.inl hg⟩
  have n1 : decide ((200 : Int) - (old.length : Int) < (ss.length : Int)) = false := decide_eq_false (by omega)
  have hw1 : IntKind.i64.wrap ((200 : Int) - (old.length : Int)) = (200 : Int) - (old.length : Int) := by rw [IntKind.wrap_i64]; omega
  have hav : ∀ x ∈ K :: (Value.slice pv old.length cv).ownBlock.toList, x < w.heap.size → ∀ cs t fr, w.heap[x]? = some (.cells cs t fr) → t ≠ 43 ∧ t ≠ 5 := by
    intro x hx _ cs2 t fr hh
    rcases List.mem_cons.1 hx with rfl | hx
    · rw [show w.heap[x]? = _ from h] at hh
      cases hh
      exact ⟨by decide, by decide⟩
    · obtain ⟨-, cur, hc⟩ := own_elem ho (show (Value.slice pv old.length cv).ownBlock = some x by simpa using hx)
      rw [hc] at hh
      cases hh
      exact ⟨by decide, by decide⟩
  have hEn : E ∉ K :: (Value.slice pv old.length cv).ownBlock.toList := by
    intro hx
    rcases List.mem_cons.1 hx with e | hx
    · obtain ⟨⟨eb, h3⟩, -⟩ := hE
      exact heap_ne h3 h (by simp) e
    · exact hne (by simpa using hx)
  have HAv := Lib.hid (And.intro hav hEn)
  have HE := Lib.hid hE
  have HR := Lib.hid hR
  generalize cli a = o at *
  clear h h1 hv ho hold hE ha hR hav hEn
  go_enter Tryz.func34, Tryz.ntmps34
  go_wp2_with fail
  refine HC.out.mono ?_
  rintro e w1 ⟨rfl, rfl⟩
  go_wp2_with fail
  go_loopw [9, 28] (fun _ i wr => ∃ j : Nat, i = .int .i64 (j : Int) ∧ j ≤ ss.length ∧ ∃ cs' v' xs', AddR w wr K o lo cs (.slice pv old.length cv) (old ++ ss.take j) cs' v' xs') (fun _ i _ => ss.length - (intOf i).toNat)
  case atStart => exact ⟨0, rfl, Nat.zero_le _, _, _, _, HR.out⟩
  case round =>
    obtain ⟨j, rfl, hj, cs', v', xs', hr⟩ := hrel
    by_cases hlt : j < ss.length
    · have n2 : decide ((j : Int) < (ss.length : Int)) = true := decide_eq_true (by omega)
      have hEr : OpsG wr E ss := HE.out.keepT hr.chg HAv.out.2 HAv.out.1
      obtain ⟨u, hu, hcell⟩ := hEr.2 j ss[j] (List.getElem?_eq_getElem hlt)
      have hu0 := hu
      obtain ⟨pu, rfl, hu2⟩ := hu
      obtain ⟨pp, pn, pc, rfl⟩ : ∃ pp pn pc, pu = .slice pp pn pc := by
        rcases hu2 with ⟨-, rfl⟩ | ⟨_, _, _, _, _, _, _, -, rfl, -⟩ <;> exact ⟨_, _, _, rfl⟩
      have a0 : wr.cell? ⟨E, j * 5, none⟩ = some (.int .i64 ss[j].k) := by rw [Nat.mul_comm]; exact hcell 0 _ rfl
      have a1 : wr.cell? ⟨E, j * 5 + 1, none⟩ = some (.int .i64 ss[j].h) := by rw [Nat.mul_comm]; exact hcell 1 _ rfl
      have a2 : wr.cell? ⟨E, j * 5 + 2, none⟩ = some (.int .i64 ss[j].a) := by rw [Nat.mul_comm]; exact hcell 2 _ rfl
      have a3 : wr.cell? ⟨E, j * 5 + 3, none⟩ = some (.int .i64 ss[j].l) := by rw [Nat.mul_comm]; exact hcell 3 _ rfl
      have a4 : wr.cell? ⟨E, j * 5 + 4, none⟩ = some (.slice pp pn pc) := by rw [Nat.mul_comm]; exact hcell 4 _ rfl
      have yB := heap_new wr (.cells #[.int .i64 0, .int .i64 0, .int .i64 0, .int .i64 0, .slice none 0 0] 64)
      have kB : Chg [] wr (wr.alloc (.cells #[.int .i64 0, .int .i64 0, .int .i64 0, .int .i64 0, .slice none 0 0] 64)) := Chg.alloc wr _
      have d0 := cell_is yB 0 rfl
      have d1 := cell_is yB 1 rfl
      have d2 := cell_is yB 2 rfl
      have d3 := cell_is yB 3 rfl
      have d4 := cell_is yB 4 rfl
      have e0 := unfrozen yB 0
      have e1 := unfrozen yB 1
      have e2 := unfrozen yB 2
      have e3 := unfrozen yB 3
      have e4 := unfrozen yB 4
      clear hu2 hcell hEr
      go_wp2_with fail
      clear d0 d1 d2 d3 d4 e0 e1 e2 e3 e4 yB kB
      have yB := heap_new wr (.cells #[.int .i64 ss[j].k, .int .i64 ss[j].h, .int .i64 ss[j].a, .int .i64 ss[j].l, .slice pp pn pc] 64)
      have kB : Chg [] wr (wr.alloc (.cells #[.int .i64 ss[j].k, .int .i64 ss[j].h, .int .i64 ss[j].a, .int .i64 ss[j].l, .slice pp pn pc] 64)) := Chg.alloc wr _
      generalize wr.alloc (.cells #[.int .i64 ss[j].k, .int .i64 ss[j].h, .int .i64 ss[j].a, .int .i64 ss[j].l, .slice pp pn pc] 64) = w5 at *
      generalize hBz : wr.heap.size = B at *
      have kd : Chg [] w5 w5.drew := (Chg.refl [] w5).drew
      have hnl : (old ++ ss.take j).length = old.length + j := by simp; omega
      have hown := hr.own
      rw [hnl] at hown
      obtain ⟨n, hnn⟩ : ∃ n, n = old.length + j := ⟨_, rfl⟩
      rw [← hnn] at hown
      obtain ⟨pv', cv', rfl, hcv'⟩ := own_form hown
      have hn200 : n ≤ 199 := by omega
      have HN := Lib.hid (And.intro hnn hnl)
      clear hnn hnl
      have s0 : w5.cell? ⟨K, o, none⟩ = some (.slice pv' n cv') := kB.cell (cell_is hr.blk o hr.at_) (by simp)
      have s0d : w5.drew.cell? ⟨K, o, none⟩ = some (.slice pv' n cv') := s0
      have b0 : w5.cell? ⟨B, 0, none⟩ = some (.int .i64 ss[j].k) := cell_is yB 0 rfl
      have b1 : w5.cell? ⟨B, 1, none⟩ = some (.int .i64 ss[j].h) := cell_is yB 1 rfl
      have b2 : w5.cell? ⟨B, 2, none⟩ = some (.int .i64 ss[j].a) := cell_is yB 2 rfl
      have b3 : w5.cell? ⟨B, 3, none⟩ = some (.int .i64 ss[j].l) := cell_is yB 3 rfl
      have b4 : w5.cell? ⟨B, 4, none⟩ = some (.slice pp pn pc) := cell_is yB 4 rfl
      have b0d : w5.drew.cell? ⟨B, 0, none⟩ = some (.int .i64 ss[j].k) := b0
      have b1d : w5.drew.cell? ⟨B, 1, none⟩ = some (.int .i64 ss[j].h) := b1
      have b2d : w5.drew.cell? ⟨B, 2, none⟩ = some (.int .i64 ss[j].a) := b2
      have b3d : w5.drew.cell? ⟨B, 3, none⟩ = some (.int .i64 ss[j].l) := b3
      have b4d : w5.drew.cell? ⟨B, 4, none⟩ = some (.slice pp pn pc) := b4
      have HW := Lib.hid (own_any w5.drew (hu0.keepT (kB.drew) (fun x hx => by cases hx)))
      go_region_law
        (first
          | (go_simp; go_at_call 84; refine HW.out.mono ?_; rintro e w6 ⟨u', rfl, k6, hu6⟩; obtain ⟨qp, qn, qc, rfl⟩ := hu6.form; have s6 := k6.cell s0d (by simp); have kA : Chg [] w6 (w6.alloc (.cells #[.int .i64 ss[j].k, .int .i64 ss[j].h, .int .i64 ss[j].a, .int .i64 ss[j].l, .slice qp qn qc] 64)) := Chg.alloc w6 _; have y6 := heap_new w6 (.cells #[.int .i64 ss[j].k, .int .i64 ss[j].h, .int .i64 ss[j].a, .int .i64 ss[j].l, .slice qp qn qc] 64); have s7 := kA.cell s6 (by simp); have hb7 : lo ≤ (w6.alloc (.cells #[.int .i64 ss[j].k, .int .i64 ss[j].h, .int .i64 ss[j].a, .int .i64 ss[j].l, .slice qp qn qc] 64)).heap.size := (by have := ((hr.chg.size)); have := ((kB.drew.then k6).then kA).size; omega))
          | (refine step_append_op rfl (.tmp 36) (.tmp 39) rfl lo w6.heap.size 1 n (.slice pv' n cv') _ _ _ _ _ xs' rfl (own_keep hown ((kB.drew.then k6).then kA).below0) hb7 (by omega) rfl y6 ⟨rfl, rfl, rfl, rfl, rfl⟩ ?_; intro g7 c7 w7 o7 k7 n7; have B7 : SchB w7 K cs' := k7.heap (kA.heap (k6.heap (kB.drew.heap hr.blk (by simp)) (by simp)) (by simp)) (own_not (own_keep hown ((kB.drew.then k6).then kA).below0) (kA.heap (k6.heap (kB.drew.heap hr.blk (by simp)) (by simp)) (by simp)) (by decide)); have s8 := cell_is B7 o hr.at_; have f8 := unfrozen B7 o))
      all_goals
        have hF := AddR.step hr hlt HN.out.1 HN.out.2 (HAv.out.1) kB k6 hu6 kA o7 k7 n7 B7 hlo
        have HF := Lib.hid hF
        have n5 : IntKind.i64.wrap ((j : Int) + 1) = ((j + 1 : Nat) : Int) := by rw [IntKind.wrap_i64]; push_cast; omega
        clear hF o7 k7 n7 B7 s8 f8 kA k6 hu6 y6 s6 s7 hb7 b0 b1 b2 b3 b4 b0d b1d b2d b3d b4d s0 s0d yB
        go_wp2_with fail
        go_roundw
        case rel => exact ⟨j + 1, rfl, hlt, _, _, _, HF.out⟩
        case measure => simp [intOf]; omega
    · have n2 : decide ((j : Int) < (ss.length : Int)) = false := decide_eq_false (by omega)
      have hje : j = ss.length := by omega
      subst hje
      rw [List.take_length] at hr
      have HF := Lib.hid hr
      clear hr
      go_wp2_with fail
      go_ret
      exact ⟨rfl, _, _, _, HF.out⟩
end Go.Proofs.YtkhionhicegfmaaGreat
namespace Go.Proofs.YtkhionhicegfmaaGreat
open Go.RowKit Go.Lib

/-- a manager behind f batches, of which n were given and bl begun. -/
def sN (qv : Value) (f : Nat) (n bl : Int) (lo : Nat) (Lv : List (Int × Value)) (vs : Int → List (Int × List UInt8)) (Lb Lr : List (Int × Value)) : Gs := ⟨qv, 0, (f : Nat), 0, (f : Nat), n, false, lo, (f : Nat), Lv, vs, bl, Lb, Lr⟩
/-- its transactions. -/
def pN (f : Nat) (h : Int) (lo : Nat) (Lv : List (Int × Value)) (vs : Int → List (Int × List UInt8)) : Par := ⟨h, (f : Nat), lo, (f : Nat), Lv, vs⟩
/-- what holds of it. -/
structure MnF (f bl o : Nat) (Lv : List (Int × Value)) (vs : Int → List (Int × List UInt8)) (ops : Int) (gs : Nat → Nat) (zs : Nat → List (List UInt8)) (Lb : List (Int × Value)) : Prop where
  old : OldV Lv vs (f : Nat)
  small : ∀ c, (vs c).length ≤ f
  opb : 0 ≤ ops ∧ ops ≤ 2 + 3 * (f : Nat)
  emp : ∀ j, j ≠ 6 → zs j = []
  log : zs 6 = logL 0 1 (bsI f)
  good : ∀ j, j < 8 → gs j = (zs j).length
  lbk : ∀ p ∈ Lb, 1 ≤ p.1 ∧ p.1 ≤ (bl : Nat)
  lbl : Lb.length = o
/-- those that wait. -/
def XsOk (w : World) (rb r : Nat) (Lr : List (Int × Value)) (i : Nat) (xs : List Wt) : Prop :=
  ∀ x ∈ xs, WtOk w Lr x ∧ x.h ≤ (i : Nat) ∧ x.rw ≠ rb ∧ x.rw ≠ r ∧ ∀ p ∈ putsL x.L x.D, p.1 < (i : Nat)
theorem XsOk.keep {w w' : World} {rb r i : Nat} {Lr : List (Int × Value)} {xs : List Wt} (h : XsOk w rb r Lr i xs) (hc : Chg [] w w') : XsOk w' rb r Lr i xs := fun x hx => ⟨(h x hx).1.keep hc, (h x hx).2⟩
/-- a store with f flushed, k that wait and m that are open. -/
def Mn (w0 : World) (f k m P N : Nat) (w : World) : Prop :=
  ∃ d lw lo Lv vs ops rds dv gs zs qv Lb Lr xs, d.P = P ∧ d.N = N ∧ Stk w lw d (sN qv f ((f + k : Nat) : Int) ((f + k + m : Nat) : Int) lo Lv vs Lb Lr) (gI f lw ops rds dv gs zs) ∧ MnF f (f + k + m) (k + m) Lv vs ops gs zs Lb ∧
    w.ownsRow lw 3 1 qv k ((xs.map (fun x => x.h)).map encZ) ∧ xs.length = k ∧ XsOk w d.rb d.r Lr (f + k + m) xs ∧ w0.heap.size ≤ lw ∧ Chg [] w0 w
theorem Mn.keep {w0 w w' : World} {f k m P N : Nat} (h : Mn w0 f k m P N w) (hc : Chg [] w w') : Mn w0 f k m P N w' := by
  obtain ⟨d, lw, lo, Lv, vs, ops, rds, dv, gs, zs, qv, Lb, Lr, xs, e1, e2, h1, h2, h3, h4, h5, h6, h7⟩ := h
  exact ⟨d, lw, lo, Lv, vs, ops, rds, dv, gs, zs, qv, Lb, Lr, xs, e1, e2, h1.keep hc, h2, own_keep h3 hc.below0, h4, h5.keep hc, h6, h7.then hc⟩
/-- .. and one that is written to. -/
def M1 (w0 : World) (f k m P N : Nat) (q : Int → List UInt8) (L : List (Int × Value)) (w : World) : Prop :=
  ∃ base d lw lo Lv vs ops rds dv gs zs qv Lb Lr xs, d.P = P ∧ d.N = N ∧ MnF f (f + k + m + 1) (k + m + 1) Lv vs ops gs zs Lb ∧
    Fr base d (pN f ((f + k + m : Nat) + 1) lo Lv vs) (StkF lw d (sN qv f ((f + k : Nat) : Int) ((f + k + m : Nat) + 1) lo Lv vs Lb Lr) (gI f lw ops rds dv gs zs)) ∧
    Su w base d (pN f ((f + k + m : Nat) + 1) lo Lv vs) (StkF lw d (sN qv f ((f + k : Nat) : Int) ((f + k + m : Nat) + 1) lo Lv vs Lb Lr) (gI f lw ops rds dv gs zs)) q L 0 ∧
    w.ownsRow lw 3 1 qv k ((xs.map (fun x => x.h)).map encZ) ∧ xs.length = k ∧ XsOk w d.rb d.r Lr (f + k + m) xs ∧ (∀ x ∈ xs, x.T < base ∧ x.rw < base) ∧ (d.rb < base ∧ d.r < base) ∧ base ≤ d.T ∧ lw ≤ base ∧ w0.heap.size ≤ lw ∧
    getL Lr ((f + k + m : Nat) + 1) = some (.pointer (some ⟨d.T, 0, none⟩)) ∧ getL Lb ((f + k + m : Nat) + 1) = some (.int .i64 (f : Nat)) ∧ Chg [] w0 w
theorem M1.keep {w0 w w' : World} {f k m P N : Nat} {q : Int → List UInt8} {L : List (Int × Value)} (h : M1 w0 f k m P N q L w) (hc : Chg [] w w') : M1 w0 f k m P N q L w' := by
  obtain ⟨base, d, lw, lo, Lv, vs, ops, rds, dv, gs, zs, qv, Lb, Lr, xs, e1, e2, hm, hf, hs, ho, hl, hx, hxb, hrb, hT, hb, hw, g1, g2, k0⟩ := h
  exact ⟨base, d, lw, lo, Lv, vs, ops, rds, dv, gs, zs, qv, Lb, Lr, xs, e1, e2, hm, hf, hs.keep hf hc, own_keep ho hc.below0, hl, hx.keep hc, hxb, hrb, hT, hb, hw, g1, g2, k0.then hc⟩
/-- what a world of law 24 holds is kept. -/
def Kp (w w' : World) : Prop := ∀ (K : Nat) (cs : Array Value), w.heap[K]? = some (.cells cs 56 (0, 0)) → w'.heap[K]? = some (.cells cs 56 (0, 0))
theorem Kp.cs {lw : Nat} {w w' : World} (h : Cs lw w w') : Kp w w' := fun _ _ hh => h.heap hh (by decide)
theorem Kp.ow {base : Nat} {w w' : World} (h : Ow base w w') : Kp w w' := fun _ _ hh => h.heap hh (by decide)
theorem beg_n (w : World) {w0 : World} {f k m P N : Nat} (h : Mn w0 f k m P N w) (hi : k + m < 16) (hf : f ≤ 1000) : Calls Tryz.prog 16 #[.pointer (some ⟨P, 0, none⟩)] w fun e w' => e = .returned (.tuple #[.int .i64 ((f + k + m : Nat) + 1), .int .i64 0]) ∧ (∃ q, M1 w0 f k m P N q [] w') ∧ Kp w w' := by
  obtain ⟨d, lw, lo, Lv, vs, ops, rds, dv, gs, zs, qv, Lb, Lr, xs, rfl, rfl, h1, h2, h3, h4, h5, h6, h7⟩ := h
  have hb := h1.bnd
  have hl : d.rx < w.heap.size ∧ d.rb < w.heap.size ∧ d.r < w.heap.size := ⟨h1.mx.ver.m.lt, h1.mx.book.2.lt, h1.mx.map.lt⟩
  have hlw : lw ≤ w.heap.size := by have := heap_lt h1.store; omega
  refine (kbegin_many w h1 (fun p hp => by have := h2.lbk p hp; omega) (by show Lb.length < 16; rw [h2.lbl]; exact hi) (show (0 : Int) ≤ (f : Nat) by omega) (show ((f : Nat) : Int) ≤ 1099511627776 by omega) (show (0 : Int) ≤ (f + k + m : Nat) by omega) (show ((f + k + m : Nat) : Int) ≤ 1000000 by omega)).mono ?_
  rintro e w' ⟨rfl, T, W, rw, Q, V, c1, hT, hSu⟩
  have avB : Av w [d.B, d.rb, d.r] [266, 5, 3] := fun x hx cs t fr hh => by
    simp at hx
    rcases hx with rfl | rfl | rfl
    · rw [h1.mx.book.1] at hh; cases hh; simp
    · exact absurd rfl (map_cells h1.mx.book.2 hh)
    · exact absurd rfl (map_cells h1.mx.map hh)
  have hkp : Kp w w' := fun K cs hh => c1.heap hh (by
    simp only [List.mem_cons, List.not_mem_nil, or_false, not_or]
    exact ⟨heap_ne hh h1.mx.book.1 (by simp), fun e => map_cells h1.mx.book.2 hh e.symm, fun e => map_cells h1.mx.map hh e.symm⟩)
  refine ⟨rfl, ⟨_, w.heap.size, { d with T := T, W := W, rw := rw, Q := Q, V := V }, lw, lo, Lv, vs, ops, rds, dv, gs, zs, qv, _, _, xs, rfl, rfl,
    ⟨h2.old, h2.small, h2.opb, h2.emp, h2.log, h2.good, ?_, ?_⟩, fr_stk hl ?_ rfl rfl rfl rfl, hSu, own_chgB h3 c1 (fun g hg hm => ?_), h4, fun x hx => ?_, fun x hx => ⟨(h5 x hx).1.lt.1, (h5 x hx).1.lt.2⟩, hl.2, hT, hlw, h6, ?_, ?_, h7.trans c1 (fun x hx hlt => ?_)⟩, hkp⟩
  · refine putL_keys (P := fun z => 1 ≤ z ∧ z ≤ ((f + k + m + 1 : Nat) : Int)) (fun p hp => ?_) ?_
    · have := h2.lbk p hp
      omega
    · show 1 ≤ ((f + k + m : Nat) : Int) + 1 ∧ ((f + k + m : Nat) : Int) + 1 ≤ ((f + k + m + 1 : Nat) : Int)
      omega
  · show (putL Lb (((f + k + m : Nat) : Int) + 1) _).length = _
    rw [putL_new (fun p hp => by have := h2.lbk p hp; omega), List.length_append, h2.lbl]
    rfl
  · show getL (putL Lr (((f + k + m : Nat) : Int) + 1) (.pointer (some ⟨T, 0, none⟩))) (((f + k + m : Nat) : Int) + 1) = some (.pointer (some ⟨T, 0, none⟩))
    rw [getL_put, if_pos rfl]
  · obtain ⟨-, cs, hh⟩ := own_elem h3 hg
    exact avB g hm cs _ _ hh (by simp)
  · obtain ⟨x1, x2, x3, x4, x5⟩ := h5 x hx
    have y := x1.keepT c1 (by
      simp only [List.mem_cons, List.not_mem_nil, or_false, not_or]
      exact ⟨heap_ne x1.tx h1.mx.book.1 (by simp), fun e => map_cells h1.mx.book.2 x1.tx e.symm, fun e => map_cells h1.mx.map x1.tx e.symm⟩) (fun y hy cs t fr hh ht => avB y hy cs t fr hh (by simp at ht; rcases ht with rfl | rfl <;> simp)) (by
      simp only [List.mem_cons, List.not_mem_nil, or_false, not_or]
      exact ⟨map_cells x1.buf.2 h1.mx.book.1, x3, x4⟩)
    refine ⟨⟨?_, y.tx, y.buf, y.bd, y.bk, y.len⟩, x2, x3, x4, x5⟩
    rw [getL_put, if_neg (by show ¬ (x.h = ((f + k + m : Nat) : Int) + 1); omega)]
    exact x1.tab
  · show getL (putL Lr (((f + k + m : Nat) : Int) + 1) (.pointer (some ⟨T, 0, none⟩))) (((f + k + m : Nat) : Int) + 1) = some (.pointer (some ⟨T, 0, none⟩))
    rw [getL_put, if_pos rfl]
  · show getL (putL Lb (((f + k + m : Nat) : Int) + 1) (.int .i64 (f : Nat))) (((f + k + m : Nat) : Int) + 1) = some (.int .i64 (f : Nat))
    rw [getL_put, if_pos rfl]
  · simp only [List.mem_cons, List.not_mem_nil, or_false] at hx
    have := h7.size
    rcases hx with rfl | rfl | rfl <;> omega
theorem wri_n (w : World) {w0 : World} {f k m P N : Nat} {q : Int → List UInt8} {E D c cp : Nat} {b : Int} {l : List UInt8} (h : M1 w0 f k m P N q [] w) (e0 : w.cell? ⟨E, 0, none⟩ = some (.int .i64 b)) (e1 : w.cell? ⟨E, 1, none⟩ = some (.slice (some ⟨D, 0, none⟩) 40 c)) (hb : Bs w (some ⟨D, 0, none⟩) l) (hl : l.length = 40) (h0 : 0 ≤ b) (h1 : b < 258) :
    Calls Tryz.prog 17 #[.pointer (some ⟨P, 0, none⟩), .int .i64 ((f + k + m : Nat) + 1), .slice (some ⟨E, 0, none⟩) 1 cp] w fun e w' => e = .returned (.int .i64 0) ∧ (∃ v, M1 w0 f k m P N (putQ q b l) [(b, v)] w') ∧ Kp w w' := by
  obtain ⟨base, d, lw, lo, Lv, vs, ops, rds, dv, gs, zs, qv, Lb, Lr, xs, rfl, rfl, hm, hf, hs, ho, hxl, hx, hxb, hrb, hT, hlb, hw, g1, g2, k0⟩ := h
  refine (swrite_gen w (cp := cp) (eo := 0) hf hs e0 e1 hb hl h0 h1 (by simp)).mono ?_
  rintro e w' ⟨v, rfl, hO, hs'⟩
  refine ⟨rfl, ⟨v, base, d, lw, lo, Lv, vs, ops, rds, dv, gs, zs, qv, Lb, Lr, xs, rfl, rfl, hm, hf, hs', ?_, hxl, fun x hx2 => ?_, hxb, hrb, hT, hlb, hw, g1, g2, Ow.chg0 k0 hO (Nat.le_trans hw hlb)⟩, Kp.ow hO⟩
  · obtain ⟨U, c, hU⟩ := hO
    refine own_chgB ho c (fun g hg hm2 => ?_)
    obtain ⟨-, cs, hh⟩ := own_elem ho hg
    rcases (hU g hm2).2 cs _ _ hh with e | e | e <;> cases e
  · obtain ⟨U, c, hU⟩ := hO
    obtain ⟨x1, x2⟩ := hx x hx2
    have hxb2 := hxb x hx2
    refine ⟨x1.keepT c (fun hm2 => ?_) (fun y hy cs t fr hh ht => ?_) (fun hm2 => ?_), x2⟩
    · have := (hU _ hm2).1; omega
    · rcases (hU y hy).2 cs t fr hh with rfl | rfl | rfl <;> simp at ht
    · have := (hU _ hm2).1; omega
/-- what is open stays so. -/
theorem opn_n {w w0 : World} {f k m P N : Nat} {q : Int → List UInt8} {L : List (Int × Value)} (h : M1 w0 f k m P N q L w) : Mn w0 f k (m + 1) P N w := by
  obtain ⟨base, d, lw, lo, Lv, vs, ops, rds, dv, gs, zs, qv, Lb, Lr, xs, rfl, rfl, hm, hf, hs, ho, hxl, hx, hxb, hrb, hT, hlb, hw, g1, g2, k0⟩ := h
  refine ⟨d, lw, lo, Lv, vs, ops, rds, dv, gs, zs, qv, Lb, Lr, xs, rfl, rfl, hs.env, hm, ho, hxl, fun x hx2 => ?_, hw, k0⟩
  obtain ⟨x1, x2, x3, x4, x5⟩ := hx x hx2
  exact ⟨x1, by omega, x3, x4, fun p hp => by have := x5 p hp; omega⟩
set_option maxRecDepth 100000 in
theorem com_n (w : World) {w0 : World} {f k P N : Nat} {q : Int → List UInt8} {v : Value} (h : M1 w0 f k 0 P N q [(((f + k : Nat) : Int), v)] w) (hf1 : f ≤ 100) (hk : k ≤ 100) : Calls Tryz.prog 19 #[.pointer (some ⟨P, 0, none⟩), .int .i64 ((f + k + 0 : Nat) + 1)] w fun e w' => e = .returned (.int .i64 0) ∧ Mn w0 f (k + 1) 0 P N w' ∧ Kp w w' := by
  obtain ⟨base, d, lw, lo, Lv, vs, ops, rds, dv, gs, zs, qv, Lb, Lr, xs, rfl, rfl, hm, hf, hs, ho, hxl, hx, hxb, hrb, hT, hlb, hw, g1, g2, k0⟩ := h
  obtain ⟨pq, cq, rfl, hcq⟩ := own_form ho
  refine (kcommit_many w (k := f + k + 1) hf hs rfl ho hxl (by omega) (fun x hx2 => ⟨(hx x hx2).1, by have := (hxb x hx2).1; omega⟩) (fun x hx2 p hp => by have := (hx x hx2).2.2.2.2 p hp; omega) rfl hm.old (show ((f + k : Nat) : Int) + 1 = ((f + k + 1 : Nat) : Int) by omega) (show ((f + k : Nat) : Int) < 1099511627776 by omega) (show (0 : Int) ≤ (f + k : Nat) by omega) (by omega) (by omega) g1 (by omega)).mono ?_
  rintro e w' ⟨rfl, gq, cq2, h1, h2, h3, h4, h5⟩
  refine ⟨rfl, ⟨d, lw, lo, Lv, vs, ops, rds, dv, gs, zs, _, Lb, Lr, _, rfl, rfl, h1, ⟨hm.old, hm.small, hm.opb, hm.emp, hm.log, hm.good, hm.lbk, ?_⟩, h2, by simp [hxl], fun x hx2 => ⟨h4 x hx2, ?_⟩, hw, Cs.chg0 k0 h5 hw⟩, Kp.cs h5⟩
  · rw [hm.lbl]
  · rcases List.mem_append.1 hx2 with hx2 | hx2
    · obtain ⟨x1, x2, x3, x4, x5⟩ := hx x hx2
      exact ⟨by omega, x3, x4, fun p hp => by have := x5 p hp; omega⟩
    · rw [List.mem_singleton] at hx2
      subst hx2
      have hh := hs.high
      refine ⟨show ((f + k + 0 : Nat) : Int) + 1 ≤ (f + (k + 1) + 0 : Nat) by omega, show d.rw ≠ d.rb by omega, show d.rw ≠ d.r by omega, fun p hp => ?_⟩
      have hp2 : p ∈ putsL [(((f + k : Nat) : Int), v)] q := hp
      rw [putsL_one, List.mem_singleton] at hp2
      subst hp2
      show ((f + k : Nat) : Int) < _
      omega
/-- one transaction waits to be flushed. -/
def M3 (w0 : World) (f P N : Nat) (q : Int → List UInt8) (L : List (Int × Value)) (w : World) : Prop :=
  ∃ d lw lo Lv vs ops rds dv gs zs gq cq Lb Lr, d.P = P ∧ d.N = N ∧ MnF f (f + 1) 1 Lv vs ops gs zs Lb ∧
    Stk w lw d (sN (.slice (some ⟨gq, 0, none⟩) 1 cq) f ((f + 1 : Nat) : Int) ((f + 1 : Nat) : Int) lo Lv vs Lb Lr) (gI f lw ops rds dv gs zs) ∧
    Wtx w d (sN (.slice (some ⟨gq, 0, none⟩) 1 cq) f ((f + 1 : Nat) : Int) ((f + 1 : Nat) : Int) lo Lv vs Lb Lr) gq cq ((f : Nat) + 1) (f + 1) (f : Nat) (f : Nat) L q ∧ lw ≤ d.T ∧ w0.heap.size ≤ lw ∧ Chg [] w0 w
theorem M3.keep {w0 w w' : World} {f P N : Nat} {q : Int → List UInt8} {L : List (Int × Value)} (h : M3 w0 f P N q L w) (hc : Chg [] w w') : M3 w0 f P N q L w' := by
  obtain ⟨d, lw, lo, Lv, vs, ops, rds, dv, gs, zs, gq, cq, Lb, Lr, e1, e2, hm, hs, hW, hT, hl, k⟩ := h
  exact ⟨d, lw, lo, Lv, vs, ops, rds, dv, gs, zs, gq, cq, Lb, Lr, e1, e2, hm, hs.keep hc, hW.keep hc, hT, hl, k.then hc⟩
theorem comA (w : World) {w0 : World} {f P N : Nat} {q : Int → List UInt8} {L : List (Int × Value)} (h : M1 w0 f 0 0 P N q L w) (hi : f ≤ 1000) (hl0 : 0 < L.length) (hl : L.length ≤ 12) : Calls Tryz.prog 19 #[.pointer (some ⟨P, 0, none⟩), .int .i64 ((f + 0 + 0 : Nat) + 1)] w fun e w' => e = .returned (.int .i64 0) ∧ M3 w0 f P N q L w' ∧ Kp w w' := by
  obtain ⟨base, d, lw, lo, Lv, vs, ops, rds, dv, gs, zs, qv, Lb, Lr, xs, rfl, rfl, hm, hf, hs, ho, hxl, hx, hxb, hrb, hT, hlb, hw, g1, g2, k0⟩ := h
  obtain rfl : xs = [] := List.eq_nil_of_length_eq_zero hxl
  obtain ⟨pq, cq, rfl, hcq⟩ := own_form ho
  have hS : Stk w lw d _ _ := hs.env
  have hsz : lw ≤ w.heap.size := by have := hS.bnd.1; have := heap_lt hS.store; omega
  refine (kcommit_stk w (loq := lw) (n := 0) (k := f + 1) hf hs rfl ho hsz (Nat.le_refl _) rfl hm.old (show ((f : Nat) : Int) + 1 = ((f + 1 : Nat) : Int) by omega) (show ((f : Nat) : Int) < 1099511627776 by omega) (show (0 : Int) ≤ (f : Nat) by omega) hl hl0 (by omega) g1 g2 (by omega)).mono ?_
  rintro e w' ⟨rfl, gq, cq, h1, h2, h3⟩
  exact ⟨rfl, ⟨d, lw, lo, Lv, vs, ops, rds, dv, gs, zs, gq, cq, Lb, Lr, rfl, rfl, hm, h1, h2, by omega, hw, Cs.chg0 k0 h3 hw⟩, Kp.cs h3⟩
set_option maxRecDepth 100000 in
theorem fluA (w : World) {w0 : World} {f P N : Nat} {q : Int → List UInt8} {v : Value} (h : M3 w0 f P N q [((f : Int), v)] w) (hq : q (f : Int) = datB f) (hi : f ≤ 40) : Calls Tryz.prog 20 #[.pointer (some ⟨P, 0, none⟩)] w fun e w' => e = .returned (.int .i64 0) ∧ Mn w0 (f + 1) 0 0 P N w' ∧ Kp w w' := by
  obtain ⟨d, lw, lo, Lv, vs, ops, rds, dv, gs, zs, gq, cq, Lb, Lr, rfl, rfl, hm, hS, hW, hT, hl, k⟩ := h
  have hlw : lw ≤ w.heap.size := by have := hS.bnd.1; have := heap_lt hS.store; omega
  have e6 : (zs 6).length = 2 * f := by rw [hm.log, logI_length]
  have hops := hm.opb
  have hd : delL Lb ((f : Nat) + 1) = [] := by
    have hb := hW.book
    have hl1 := hm.lbl
    match Lb, hl1, hb with
    | [p], _, hb =>
      have hb' : getL [p] ((f : Nat) + 1) = _ := hb
      simp only [getL] at hb'
      by_cases e : ((f : Nat) : Int) + 1 = p.1
      · simp [delL, e]
      · rw [if_neg e] at hb'; cases hb'
  refine (kflush_tx w (k := f + 1) hS hW rfl hT hlw (by omega) (show ((f : Nat) : Int) < ((f + 1 : Nat) : Int) by omega) (by omega) (fun c => by have : (vs c).length ≤ f := hm.small c; show (vs c).length + 16 < 1000000; omega) (show (0 : Int) ≤ (f : Nat) by omega) (show ((f : Nat) : Int) ≤ 100000000 by omega) (by show (zs 6).length + 1 + 1 ≤ 96; omega) (by show 2 * f + 1 + 1 ≤ 96; omega) (show 0 ≤ ops by omega) (show ops ≤ 100000 by omega) (show 0 < 4294967296 by decide) (show f < 1000000000 by omega)).mono ?_
  rintro e w' ⟨rfl, z, Lv', v6, h1, h2, h3, h4⟩
  rw [putsL_one, hq] at h1
  have hv : ∀ b, applyV vs ((f + 1 : Nat) : Int) [((f : Int), datB f)] b = if b = (f : Int) then vs b ++ [(((f + 1 : Nat) : Int), datB f)] else vs b := fun b => rfl
  have hs1 : doneS (sN (.slice (some ⟨gq, 0, none⟩) 1 cq) f ((f + 1 : Nat) : Int) ((f + 1 : Nat) : Int) lo Lv vs Lb Lr) z (f + 1) ((f : Nat) + 1) Lv' [((f : Int), datB f)] = sN (.slice (some ⟨z, 0, none⟩) 0 0) (f + 1) ((f + 1 + 0 : Nat) : Int) ((f + 1 + 0 + 0 : Nat) : Int) lo Lv' (applyV vs ((f + 1 : Nat) : Int) [((f : Int), datB f)]) [] Lr := by
    show (_ : Gs) = _
    unfold doneS sN
    simp only [hd]
    rfl
  have hg1 : doneK (gI f lw ops rds dv gs zs) v6 (f + 1) [((f : Int), datB f)] = gI (f + 1) lw (ops + 1 + 2) rds (upF dv 6 v6) (goodF gs (upF zs 6 (zs 6 ++ batL 0 (f + 1) (f + 1) [((f : Int), datB f)])) 8) (upF zs 6 (zs 6 ++ batL 0 (f + 1) (f + 1) [((f : Int), datB f)])) := by
    show (_ : Gk) = _
    unfold doneK gI
    rfl
  rw [hs1, hg1] at h1
  refine ⟨rfl, ⟨d, lw, lo, Lv', _, _, rds, _, _, _, _, [], Lr, [], rfl, rfl, h1, ⟨⟨h1.keys, fun b x hx => ?_⟩, fun c => ?_, by omega, fun j hj => ?_, ?_, fun j hj => ?_, fun p hp => (by cases hp), rfl⟩, h3, rfl, fun x hx => (by cases hx), hl, Cs.chg0 k h2 hl⟩, Kp.cs h2⟩
  · rw [hv] at hx
    have old : ∀ x ∈ vs b, x.1 ≤ ((f + 1 : Nat) : Int) := fun x hx => by have := hm.old.2 b x hx; omega
    split at hx
    · rcases List.mem_append.1 hx with hx | hx
      · exact old x hx
      · rw [List.mem_singleton] at hx
        subst hx
        exact Int.le_refl _
    · exact old x hx
  · rw [hv]
    have := hm.small c
    split
    · rw [List.length_append]; simp; omega
    · omega
  · simp [upF, hj, hm.emp j hj]
  · simp only [upF, if_pos, hm.log, logI_succ]
  · simp [goodF, hj]
end Go.Proofs.YtkhionhicegfmaaGreat
namespace Go.Proofs.YtkhionhicegfmaaGreat
open Go.RowKit Go.Lib

set_option maxRecDepth 100000 in
set_option maxHeartbeats 4000000 in
theorem zown2 (w : World) {lo c n : Nat} {pa : Option Addr} {l : List (List UInt8)} (h : RowsAt w lo (.slice pa n c) l) (hn : l.length = n) (hn1 : n ≤ 1000) : Calls Tryz.prog 76 #[.slice pa n c] w fun e w' => ∃ v, e = .returned v ∧ Chg [] w w' ∧ RowsC w' w.heap.size v l ∧ (l = [] → v = .slice none 0 0) := by
  have HP := Lib.hid h
  clear h
  go_enter Tryz.func76, Tryz.ntmps76
  go_wp2_with fail
  go_loopw [2, 4, 7] (fun v _ i wr => ∃ j : Nat, j ≤ n ∧ i = .int .i64 j ∧ Chg [] w wr ∧ RowsC wr w.heap.size v (l.take j) ∧ (j = 0 → v = .slice none 0 0)) (fun _ _ i _ => n - (intOf i).toNat)
  case atStart => exact ⟨0, by omega, rfl, Chg.refl _ _, by simpa using RowsC.nil _ _, fun _ => rfl⟩
  case round =>
    obtain ⟨j, hj, rfl, kr, hrx, hz0⟩ := hrel
    by_cases hlt : j < n
    · have hjl : j < l.length := by omega
      obtain ⟨ga, ca, gd, cd, hv, hca, r0, hb, h64, -, -⟩ := (HP.out.keep kr (Av.nil _ _) (fun _ _ => by simp)).at2 j hjl
      have hpa : pa = some ⟨ga, 0, none⟩ ∧ n ≤ c := by
        injection hv with e1 e2 e3
        exact ⟨e1, by omega⟩
      obtain ⟨rfl, hnc⟩ := hpa
      have HC := Lib.hid (clone_btc wr (D := gd) (o := 0) (c := cd) (m := 64) h64 (by decide) (by decide) hb)
      have HX := Lib.hid (And.intro kr hrx)
      have H64 := Lib.hid h64
      have hji : (j : Int) < n := by omega
      clear kr hrx hb h64 hv hz0
      go_wp2_with fail
      refine HC.out.mono ?_
      rintro e w2 ⟨g, c', rfl, k2, b2, hg2, t2, c64⟩
      obtain ⟨kr, hrx⟩ := HX.out
      obtain ⟨xs, ho, hxs⟩ := hrx.keep0 k2
      have hjt : (l.take j).length = j := by simp; omega
      rw [hjt] at ho
      obtain ⟨pv, cv, rfl, -⟩ := own_form ho
      have ka : Chg [] w2 (w2.alloc (.cells #[.slice (some ⟨g, 0, none⟩) 64 c'] 40)) := Chg.alloc w2 _
      have ya := heap_new w2 (.cells #[.slice (some ⟨g, 0, none⟩) 64 c'] 40)
      have oa := own_keep ho ka.below0
      have hk2 := k2.size
      have hkr := kr.size
      have hba : w.heap.size ≤ (w2.alloc (.cells #[.slice (some ⟨g, 0, none⟩) 64 c'] 40)).heap.size := by have := ka.size; omega
      have H2 := Lib.hid (And.intro (kr.then k2) (And.intro b2 (And.intro t2 (And.intro c64 (And.intro hxs ho)))))
      clear kr hrx k2 b2 t2 c64 hxs ho HX HC
      go_wp2_with (first | (at_builtin; refine wpList_append_bk rfl (.tmp 11) (.tmp 14) rfl w.heap.size (.slice pv j cv) j xs rfl oa w2.heap.size 1 _ rfl (cell_is ya 0 rfl) rfl (by omega) hba ?_; intro g5 c5 w5 o5 k5 i5))
      obtain ⟨k2, b2, t2, c64, hxs, ho⟩ := H2.out
      have hfin : Chg [] w w5 ∧ RowsC w5 w.heap.size (.slice (some ⟨g5, 0, none⟩) (j + 1) c5) (l.take (j + 1)) := by
        refine ⟨(k2.then ka).trans k5 (fun x hx hl => ?_), ?_⟩
        · obtain ⟨hge, -⟩ := own_elem oa (show (Value.slice pv j cv).ownBlock = some x by simpa using hx)
          omega
        · rw [List.take_succ_eq_append_getElem hjl]
          have hp := RowsC.push (w := w2.alloc (.cells #[.slice (some ⟨g, 0, none⟩) 64 c'] 40)) (w' := w5) (base := w.heap.size) (g := g5) (gb := g) (cb := c') (cap := c5) (v := .slice pv j cv) (l := l.take j) (b := l[j]) (xs := xs)
            (fun i hi => by obtain ⟨g', c'', e1, e2, e3, e4, e5⟩ := hxs i hi; exact ⟨g', c'', e1, e2, e3.chg ka, e4, e5.keep ka (by simp)⟩)
            (by rw [hjt]; have := ho.1; omega) (fun g' hg' => (own_elem oa hg').2) (by rw [hjt]; exact o5) k5 (b2.chg ka) H64.out (t2.keep ka (by simp)) c64
          rw [hjt] at hp
          exact hp
      have HF := Lib.hid hfin
      clear hfin k2 b2 t2 c64 hxs ho ka ya oa o5 k5 i5
      go_wp2_with fail
      go_roundw
      case rel => exact ⟨j + 1, hlt, by go_num, HF.out.1, HF.out.2, fun e => absurd e (Nat.succ_ne_zero j)⟩
      case measure => simp [intOf]; omega
    · obtain rfl : j = n := by omega
      rw [List.take_of_length_le (by omega)] at hrx
      go_wp2_with fail
      go_ret
      exact ⟨_, rfl, kr, hrx, fun e => hz0 (by subst e; simpa using hn.symm)⟩
/-- what a crash hands back. -/
def CrashE (w : World) (zs : Nat → List (List UInt8)) (e : Ending) (w' : World) : Prop :=
  ∃ N A c Z vs, e = .returned (.pointer (some ⟨N, 0, none⟩)) ∧ Chg [] w w' ∧ DevG w' w.heap.size N A c 0 Z vs (fun i => (cutZ zs 8 i).length) (cutZ zs 8) ∧ w.heap.size ≤ N ∧ w.heap.size ≤ A ∧ (∀ z ∈ Z, w.heap.size ≤ z) ∧ ∀ i, zs i = [] → vs i = .slice none 0 0
set_option maxRecDepth 100000 in
set_option maxHeartbeats 8000000 in
theorem crash2 (w : World) {base N A c : Nat} {ops rds : Int} {Z : List Nat} {vs : Nat → Value} {gs : Nat → Nat} {zs : Nat → List (List UInt8)} (hD : DevK w base N A c ops rds Z vs gs zs) (hg : ∀ j, j < 8 → gs j = (zs j).length) (hlen : ∀ j, j < 8 → (zs j).length ≤ 96) {pv tv : Value} (hp : PickOk pv w) (ht : PickOk tv w) :
    Calls Tryz.prog 23 #[.pointer (some ⟨N, 0, none⟩), pv, tv] w (CrashE w zs) := by
  have HG := Lib.hid (kgone w hD)
  have n0 : w.cell? ⟨N, 0, none⟩ = some (.int .i64 8) := cell_is hD.hdr 0 rfl
  have n1 : w.cell? ⟨N, 1, none⟩ = some (.int .i64 96) := cell_is hD.hdr 1 rfl
  have HD := Lib.hid hD
  have HP := Lib.hid hp
  have HT := Lib.hid ht
  have HE := Lib.hid hg
  have HL := Lib.hid hlen
  clear hD hp ht hg hlen
  go_enter Tryz.func23, Tryz.ntmps23
  go_wp2_with fail
  refine HG.out.mono ?_
  rintro e w1 ⟨rfl, rfl⟩
  go_wp2_with fail
  refine (new_any2 w).mono ?_
  rintro e w1 ⟨N', A', c', Z', rfl, k1, hD1, hO, lN, lA, lZ, hAx, hZn⟩
  have hG0 : DevG w1 w.heap.size N' A' c' 0 Z' (fun _ => .slice none 0 0) (fun i => (cutZ zs 0 i).length) (cutZ zs 0) := by
    have e : cutZ zs 0 = fun _ => [] := by funext i; simp [cutZ]
    rw [e]
    exact ⟨hD1.1, hD1.2.1, hD1.2.2.1, hAx, hD1.2.2.2.1, hD1.2.2.2.2, fun _ _ => RowsAt.nil w1 _, fun _ _ _ _ _ _ e => by simp [Value.ownBlock] at e, hZn⟩
  have m2' : w.cell? ⟨N, 2, none⟩ = some (.slice (some ⟨A, 0, none⟩) 8 c) := cell_is HD.out.hdr 2 rfl
  have m2 := k1.cell m2' (by simp)
  have HI := Lib.hid (And.intro lN (And.intro lA lZ))
  have hcap : (8 : Int) ≤ c := by have := HD.out.cap; omega
  clear hD1 hO hAx hZn lN lA lZ n0 n1 HG
  go_wp2_with fail
  go_loopw [33] (fun i wr => ∃ j : Nat, ∃ vs', i = .int .i64 j ∧ j ≤ 8 ∧ Chg [] w wr ∧ DevG wr w.heap.size N' A' c' 0 Z' vs' (fun i => (cutZ zs j i).length) (cutZ zs j) ∧ ∀ i, zs i = [] → vs' i = .slice none 0 0) (fun i _ => 8 - (intOf i).toNat)
  case atStart => exact ⟨0, _, rfl, by omega, k1, hG0, fun _ _ => rfl⟩
  case round =>
    obtain ⟨j, vs', rfl, hj, kr, hG, hem⟩ := hrel
    have HM := Lib.hid hem
    clear hem
    by_cases hlt : j < 8
    · have hDr := HD.out.keep kr (Av.nil _ _)
      have hjz : j < Z.length := by have := hDr.len; omega
      have hjz' : j < Z'.length := by have := hG.len; omega
      have a0 := hDr.ptr j hjz
      have k0 := hDr.zone j hjz
      have hrows := hDr.rows j hlt
      obtain ⟨pa, cc, hv, hcc⟩ : ∃ pa cc, vs j = .slice pa (zs j).length cc ∧ (zs j).length ≤ cc := by
        obtain ⟨xs, ho, -⟩ := hDr.rows j hlt
        exact own_form ho
      rw [hv] at k0 hrows
      have b0 : wr.cell? ⟨Z[j], 0, none⟩ = some (.slice pa (zs j).length cc) := cell_is k0 0 rfl
      have b1 : wr.cell? ⟨Z[j], 1, none⟩ = some (.int .i64 (zs j).length) := by
        have := cell_is k0 1 (v := .int .i64 (gs j : Nat)) rfl
        rwa [HE.out j hlt] at this
      have HO := Lib.hid (fun wx (kx : Chg [] wr wx) => zown2 wx (hrows.keep kx (Av.nil _ _) (fun _ _ => by simp)) rfl (by have := HL.out j hlt; omega))
      have h96 : (zs j).length ≤ 96 := HL.out j hlt
      have hji : (j : Int) < 8 := by omega
      have HGr := Lib.hid (And.intro kr hG)
      have kd : Chg [] wr wr.drew := (Chg.refl [] wr).drew
      have b0d : wr.drew.cell? ⟨Z[j], 0, none⟩ = some (.slice pa (zs j).length cc) := b0
      have b1d : wr.drew.cell? ⟨Z[j], 1, none⟩ = some (.int .i64 (zs j).length) := b1
      have krd := kr.then kd
      have m2r := kr.cell m2' (by simp)
      clear hDr hrows k0 hv kr hG
      generalize hZZ : Z[j] = z at *
      go_upto_region 7 with fail
      go_region_law (fail)
      all_goals
        have HKd := Lib.hid (And.intro kd krd)
        clear kd krd
        go_wp2_with fail
        refine (HP.out _ HKd.out.2 j hlt).mono ?_
        rintro e w2 ⟨x, b, rfl, rfl⟩
        cases b
        all_goals
          go_wp2_with (first | (go_at_call 75; refine (rest_one _ x).mono ?_; rintro e w2 ⟨rfl, rfl⟩))
          refine (HO.out _ HKd.out.1).mono ?_
          rintro e w3 ⟨v3, rfl, k3, r3, r3n⟩
          obtain ⟨xs3, ho3, -⟩ := id r3
          obtain ⟨p3, c3, rfl, -⟩ := own_form ho3
          have kk3 := HKd.out.1.then k3
          have hG3 := HGr.out.2.keep kk3 (Av.nil _ _)
          obtain ⟨pz, cz, hvz⟩ := (hG3.rows j hlt).len
          have hz3 := hG3.zone j hjz'
          rw [hvz] at hz3
          have n2 : w3.cell? ⟨N', 2, none⟩ = some (.slice (some ⟨A', 0, none⟩) 8 c') := cell_is hG3.hdr 2 rfl
          have na := hG3.ptr j hjz'
          have hc8 := hG3.cap
          have z0 := cell_is hz3 0 rfl
          have z1 := cell_is hz3 1 rfl
          have f0 := unfrozen hz3 0
          have f1 := unfrozen hz3 1
          have hlay := hG3.lay hjz' (v' := .slice p3 (zs j).length c3) (l' := zs j) (r3.at_.base HGr.out.1.size) (fun g hg i hi hij e => by
            obtain ⟨h1, -⟩ := own_elem ho3 hg
            obtain ⟨cs, h2⟩ := (HGr.out.2.rows i hi).block g e
            have h3 := heap_lt h2
            have h4 := HKd.out.1.size
            omega)
          rw [cutG_succ, cutZ_succ] at hlay
          have hfin := ((HGr.out.1.then kk3).new_set (HI.out.2.2 _ (List.getElem_mem hjz')) 0 (.slice p3 (zs j).length c3)).new_set (HI.out.2.2 _ (List.getElem_mem hjz')) 1 (.int .i64 (zs j).length)
          have hnn : ∀ i, zs i = [] → upF vs' j (.slice p3 (zs j).length c3) i = .slice none 0 0 := fun i hi => by
            by_cases e : i = j
            · subst e
              rw [show upF vs' i (.slice p3 (zs i).length c3) i = .slice p3 (zs i).length c3 by simp [upF]]
              exact r3n hi
            · rw [show upF vs' j (.slice p3 (zs j).length c3) i = vs' i by simp [upF, e]]
              exact HM.out i hi
          have HF := Lib.hid (And.intro hfin (And.intro hlay hnn))
          have HTk := Lib.hid (HT.out _ (HGr.out.1.then kk3) j hlt)
          clear hlay hfin hnn r3n hz3 hG3 hvz k3 r3 ho3 kk3
          generalize hZ2 : Z'[j] = z2 at *
          go_wp2_with fail
          refine HTk.out.mono ?_
          rintro e w4 ⟨x2, b2, rfl, rfl⟩
          cases b2
          all_goals
            go_wp2_with fail
            go_roundw
            case rel => exact ⟨j + 1, _, by go_num, by omega, HF.out.1, HF.out.2.1, HF.out.2.2⟩
            case measure => simp [intOf]; omega
    · obtain rfl : j = 8 := by omega
      go_wp2_with fail
      go_ret
      exact ⟨N', A', c', Z', vs', rfl, kr, hG, HI.out.1, HI.out.2.1, HI.out.2.2, HM.out⟩
end Go.Proofs.YtkhionhicegfmaaGreat
namespace Go.Proofs.YtkhionhicegfmaaGreat
open Go.RowKit Go.Lib

set_option maxRecDepth 100000 in
theorem squeue_ok (w : World) {P N S M X B r pos num n cq : Nat} {pq : Option Addr} {out nm bas last given : Int} {rd : Bool} (hS : StoreG w P N S M pos num) (hM : MgrG w M X B r (.slice pq n cq) out nm bas last given rd) : Calls Tryz.prog 26 #[.pointer (some ⟨P, 0, none⟩)] w fun e w' => e = .returned (.int .i64 n) ∧ w = w' := by
  have HG := Lib.hid (smanager_ok w hS)
  have m3 : w.cell? ⟨M, 3, none⟩ = some (.slice pq n cq) := cell_is hM 3 rfl
  have HT := Lib.hid (tgone_mg w hM)
  clear hS hM
  have HQ : Hid (Calls Tryz.prog 80 #[.pointer (some ⟨M, 0, none⟩)] w fun e w' => e = .returned (.int .i64 n) ∧ w = w') := Lib.hid (by
    go_enter Tryz.func80, Tryz.ntmps80
    go_wp2_with fail
    refine HT.out.mono ?_
    rintro e w1 ⟨rfl, rfl⟩
    go_wp2_with fail
    go_ret
    exact ⟨rfl, rfl⟩)
  go_enter Tryz.func26, Tryz.ntmps26
  go_wp2_with fail
  refine HG.out.mono ?_
  rintro e w1 ⟨rfl, rfl⟩
  go_wp2_with fail
  refine HQ.out.mono ?_
  rintro e w1 ⟨rfl, rfl⟩
  go_wp2_with fail
  go_ret
  exact ⟨rfl, rfl⟩
set_option maxRecDepth 100000 in
theorem sopen_ok (w : World) {P N S M X B r rb pos num : Nat} {qv : Value} {out nm bas last given bl : Int} {rd : Bool} {L : List (Int × Value)} (hS : StoreG w P N S M pos num) (hM : MgrG w M X B r qv out nm bas last given rd) (hB : BookAt w B rb bl L) (hk : ∀ p ∈ L, 0 ≤ p.1 ∧ p.1 ≤ 1000000) (hl : L.length ≤ 1000) :
    Calls Tryz.prog 27 #[.pointer (some ⟨P, 0, none⟩)] w fun e w' => e = .returned (.int .i64 L.length) ∧ Chg [] w w' := by
  have HG := Lib.hid (smanager_ok w hS)
  have m1 : w.cell? ⟨M, 1, none⟩ = some (.pointer (some ⟨B, 0, none⟩)) := cell_is hM 1 rfl
  have HT := Lib.hid (tgone_mg w hM)
  have HC := Lib.hid (bcount_any w hB hk hl)
  clear hS hM hB hk hl
  have HQ : Hid (Calls Tryz.prog 81 #[.pointer (some ⟨M, 0, none⟩)] w fun e w' => e = .returned (.int .i64 L.length) ∧ Chg [] w w') := Lib.hid (by
    go_enter Tryz.func81, Tryz.ntmps81
    go_wp2_with fail
    refine HT.out.mono ?_
    rintro e w1 ⟨rfl, rfl⟩
    go_wp2_with fail
    refine HC.out.mono ?_
    rintro e w1 ⟨rfl, k1⟩
    go_wp2_with fail
    go_ret
    exact ⟨rfl, k1⟩)
  go_enter Tryz.func27, Tryz.ntmps27
  go_wp2_with fail
  refine HG.out.mono ?_
  rintro e w1 ⟨rfl, rfl⟩
  go_wp2_with fail
  refine HQ.out.mono ?_
  rintro e w1 ⟨rfl, k1⟩
  go_wp2_with fail
  go_ret
  exact ⟨rfl, k1⟩
set_option maxRecDepth 100000 in
theorem result_none (w : World) {P M X r : Nat} {h : Int} {L : List (Int × Value)} (p5 : w.cell? ⟨P, 5, none⟩ = some (.pointer (some ⟨M, 0, none⟩))) (m0 : w.cell? ⟨M, 0, none⟩ = some (.pointer (some ⟨X, 0, none⟩))) (m2 : w.cell? ⟨M, 2, none⟩ = some (.map (some r)))
    (hm : MapAt w r L) (hg : getL L h = none) : Calls Tryz.prog 22 #[.pointer (some ⟨P, 0, none⟩), .int .i64 h] w fun e w' => e = .returned (.tuple #[.int .i64 0, .int .i64 0, .int .i64 0]) ∧ Chg [] w w' := by
  have hl : (Instr.lookup 187 (.map (some r)) (.int .i64 h) true).run Tryz.prog w = .ok (.tuple #[.pointer none, .bool false]) w := by
    have := lookup178 hm h true
    rw [hg] at this
    exact this
  have HT : Hid (Calls Tryz.prog 72 #[.pointer (some ⟨M, 0, none⟩), .int .i64 h] w fun e w' => e = .returned (.tuple #[.int .i64 0, .int .i64 0, .int .i64 0]) ∧ Chg [] w w') := Lib.hid (by
    clear hm hg
    go_enter Tryz.func72, Tryz.ntmps72
    go_wp2_with fail
    refine (tgone0 w m0).mono ?_
    rintro e w1 ⟨rfl, rfl⟩
    go_wp2_with fail
    go_ret3
    exact ⟨rfl, Chg.refl [] w⟩)
  clear hm hg hl
  go_enter Tryz.func22, Tryz.ntmps22
  go_wp2_with fail
  refine (mgr_of w p5).mono ?_
  rintro e w1 ⟨rfl, rfl⟩
  go_wp2_with fail
  refine HT.out.mono ?_
  rintro e w1 ⟨rfl, hc⟩
  go_wp2_with fail
  go_ret3
  exact ⟨rfl, hc⟩
theorem que_n (w : World) {w0 : World} {f k m P N : Nat} (h : Mn w0 f k m P N w) : Calls Tryz.prog 26 #[.pointer (some ⟨P, 0, none⟩)] w fun e w' => e = .returned (.int .i64 k) ∧ w = w' := by
  obtain ⟨d, lw, lo, Lv, vs, ops, rds, dv, gs, zs, qv, Lb, Lr, xs, rfl, rfl, h1, h2, h3, h4, h5, h6, h7⟩ := h
  obtain ⟨pq, cq, rfl, hcq⟩ := own_form h3
  exact squeue_ok w h1.store h1.mx.mgr
theorem opn_of (w : World) {w0 : World} {f k m P N : Nat} (h : Mn w0 f k m P N w) (hf : f ≤ 100) (hk : k + m ≤ 16) : Calls Tryz.prog 27 #[.pointer (some ⟨P, 0, none⟩)] w fun e w' => e = .returned (.int .i64 (k + m : Nat)) ∧ Chg [] w w' := by
  obtain ⟨d, lw, lo, Lv, vs, ops, rds, dv, gs, zs, qv, Lb, Lr, xs, rfl, rfl, h1, h2, h3, h4, h5, h6, h7⟩ := h
  have e : Lb.length = k + m := h2.lbl
  rw [← e]
  exact sopen_ok w h1.store h1.mx.mgr h1.mx.book (fun p hp => by have := h2.lbk p hp; omega) (by show Lb.length ≤ 1000; omega)
theorem que_i (w : World) {w0 : World} {i : Nat} {d : Ids} (h : Ma w0 i w d) : Calls Tryz.prog 26 #[.pointer (some ⟨d.P, 0, none⟩)] w fun e w' => e = .returned (.int .i64 0) ∧ w = w' := by
  obtain ⟨lw, lo, Lv, vs, ops, rds, dv, gs, zs, h1, h2, h3, h4⟩ := h
  exact squeue_ok w (n := 0) (cq := 0) (pq := none) h1.store h1.mx.mgr
theorem opn_i (w : World) {w0 : World} {i : Nat} {d : Ids} (h : Ma w0 i w d) : Calls Tryz.prog 27 #[.pointer (some ⟨d.P, 0, none⟩)] w fun e w' => e = .returned (.int .i64 0) ∧ Chg [] w w' := by
  obtain ⟨lw, lo, Lv, vs, ops, rds, dv, gs, zs, h1, h2, h3, h4⟩ := h
  exact sopen_ok w h1.store h1.mx.mgr h1.mx.book (fun p hp => (by cases hp)) (Nat.zero_le _)
theorem res0_i (w : World) {w0 : World} {i : Nat} {d : Ids} (h : Ma w0 i w d) : Calls Tryz.prog 22 #[.pointer (some ⟨d.P, 0, none⟩), .int .i64 1] w fun e w' => e = .returned (.tuple #[.int .i64 0, .int .i64 0, .int .i64 0]) ∧ Chg [] w w' := by
  obtain ⟨lw, lo, Lv, vs, ops, rds, dv, gs, zs, h1, h2, h3, h4⟩ := h
  exact result_none w (cell_is h1.store 5 rfl) h1.mx.cells.1 h1.mx.cells.2.2.1 h1.mx.map rfl
theorem cra_n (w : World) {w0 : World} {f k m P N : Nat} (h : Mn w0 f k m P N w) (hf : f ≤ 40) : Calls Tryz.prog 23 #[.pointer (some ⟨N, 0, none⟩), .slice none 0 0, .slice none 0 0] w fun e w' => ∃ N', e = .returned (.pointer (some ⟨N', 0, none⟩)) ∧ Dv w0 f w' N' ∧ Chg [] w w' := by
  obtain ⟨d, lw, lo, Lv, vs, ops, rds, dv, gs, zs, qv, Lb, Lr, xs, rfl, rfl, h1, h2, h3, h4, h5, hl, k0⟩ := h
  refine (crash2 w h1.dev h2.good (fun j hj => ?_) (pick_nil w) (pick_nil w)).mono ?_
  · by_cases e : j = 6
    · subst e
      show (zs 6).length ≤ 96
      rw [h2.log, logI_length]
      omega
    · show (zs j).length ≤ 96
      rw [h2.emp j e]; simp
  · rintro e w' ⟨N', A', c', Z', vs', rfl, k1, hD, lN, lA, lZ, hem⟩
    have hs := k1.size
    have hlw : lw ≤ w.heap.size := by have := h1.bnd.1; have := heap_lt h1.store; omega
    refine ⟨N', rfl, ⟨k0.then k1, ?_⟩, k1⟩
    by_cases hf0 : f = 0
    · subst hf0
      have hz : ∀ i, zs i = [] := fun i => by
        by_cases e : i = 6
        · subst e; rw [h2.log]; rfl
        · exact h2.emp i e
      have hc0 : ∀ i, cutZ zs 8 i = [] := fun i => by unfold cutZ; split; exact hz i; rfl
      have hv : ∀ i, vs' i = .slice none 0 0 := fun i => hem i (hz i)
      obtain ⟨cA, hA⟩ := hD.tA
      refine Or.inl ⟨rfl, A', c', Z', ⟨hD.hdr, hD.cap, hD.len, hD.ptr, fun j hj => ?_⟩, ⟨?_, ?_, ?_⟩, by omega, by omega, fun z hz => by have := lZ z hz; omega, hD.tA, hD.nodup⟩
      · have hz1 : w'.heap[Z'[j]]? = some (.cells #[vs' j, .int .i64 ((cutZ zs 8 j).length : Nat)] 97 (0, 0)) := hD.zone j hj
        rw [hv, hc0] at hz1
        exact hz1
      · exact heap_ne hA hD.hdr (by simp)
      · intro hm
        obtain ⟨j, hj, e⟩ := List.getElem_of_mem hm
        exact heap_ne (hD.zone j hj) hD.hdr (by simp) e
      · intro hm
        obtain ⟨j, hj, e⟩ := List.getElem_of_mem hm
        exact heap_ne (hD.zone j hj) hA (by simp) e
    · refine Or.inr ⟨by omega, w.heap.size, A', c', Z', vs', _, _, by omega, lN, lZ, hD, fun j hj => ?_, ?_⟩
      · unfold cutZ
        split
        · exact h2.emp j hj
        · rfl
      · show cutZ zs 8 6 = _
        simp [cutZ, h2.log]
end Go.Proofs.YtkhionhicegfmaaGreat
