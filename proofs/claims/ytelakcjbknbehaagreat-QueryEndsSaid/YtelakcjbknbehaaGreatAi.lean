/- Lemmas and walks: Walks: a batch of one transaction is written into the log. Walks: a handle is closed; a transaction ends. Walks: a copy of a row of one int, and of none. Walks: puts that rise; a version more of some blocks, in plain words. Walks: a transaction is taken in by the versions. Walks: a transaction begins, in general. Walks: a batch of one transaction is done. The state of a store, in general: its parts, kept together; how the slots' text is read. Walks: a store's batch of one transaction is flushed. Walks: versions that are no newer than a time: nothing was written behind it. -/
import Derived.Deep.CutBlock
import Derived.Maps.RangeRun
import Derived.Test.YtelakcjbknbehaaGreatAd
import Derived.Test.YtelakcjbknbehaaGreatAe
import Derived.Test.YtelakcjbknbehaaGreatAf
import Derived.Test.YtelakcjbknbehaaGreatAg
import Derived.Test.YtelakcjbknbehaaGreatAh
namespace Go.Proofs.YtelakcjbknbehaaGreat
open Go.RowKit Go.Lib

/-- block P is a store on the device N: where its log stands, how many batches it has. -/
def StoreG (w : World) (P N S M : Nat) (pos num : Nat) : Prop :=
  w.heap[P]? = some (.cells #[.pointer (some ⟨N, 0, none⟩), .int .i64 0, .int .i64 3, .int .i64 6, .int .i64 7, .pointer (some ⟨M, 0, none⟩), .pointer (some ⟨S, 0, none⟩), .int .i64 pos, .int .i64 num, .bool false] 102 (0, 0))
theorem RowsAt.get {w : World} {base : Nat} {v : Value} {l : List (List UInt8)} (h : RowsAt w base v l) (k : Nat) (hk : k < l.length) : ∃ g cap gd cd, v = .slice (some ⟨g, 0, none⟩) l.length cap ∧ l.length ≤ cap ∧
    w.cell? ⟨g, k, none⟩ = some (.slice (some ⟨gd, 0, none⟩) 64 cd) ∧ Bs w (some ⟨gd, 0, none⟩) l[k] ∧ l[k].length = 64 ∧ Bt w gd := by
  obtain ⟨xs, ho, hx⟩ := h
  obtain ⟨gd, cd, h1, h2, h3, h4⟩ := hx k hk
  rcases ho.2 with ⟨_, e⟩ | ⟨g, cap, cur, rfl, hA, hg, hc1, hc2, hc3, ht⟩
  · omega
  · refine ⟨g, cap, gd, cd, rfl, hc1, cell_is hg _ ?_, h2, h3, h4⟩
    rw [← ht, List.getElem?_take_of_lt (by omega), Array.getElem?_toList] at h1
    exact h1
theorem upF_twice {α : Type} (f : Nat → α) (j : Nat) (x y : α) : upF (upF f j x) j y = upF f j y := by
  funext k
  unfold upF
  split <;> rfl
theorem upF_same {α : Type} (f : Nat → α) (j : Nat) (x : α) : upF f j x j = x := by simp [upF]
theorem wrap64_id (x : Int) (h0 : 0 ≤ x) (h1 : x < 4611686018427387904) : wrap64 x = x := by unfold wrap64; omega
theorem pos_wrap (pos n m : Nat) (h : n = m + 1) (hp : pos + n < 1000) : wrap64 ((pos : Int) + (n : Nat)) = ((pos + m + 1 : Nat) : Int) := by
  rw [wrap64_id _ (by omega) (by omega)]
  omega
/-- where the writing of a batch stands: j blocks are written. -/
structure Wl (w wz : World) (base N A c : Nat) (ops : Int) (Z : List Nat) (vs : Nat → Value) (gs : Nat → Nat) (zs : Nat → List (List UInt8)) (z6 : Nat) (P S M pos num lo : Nat) (v : Value) (bl : List (List UInt8)) (j : Nat) : Prop where
  dev : ∃ v6, DevG wz base N A c (ops + j) Z (upF vs 6 v6) gs (upF zs 6 (zs 6 ++ bl.take j)) ∧ (∀ g, v6.ownBlock = some g → (vs 6).ownBlock = some g ∨ w.heap.size ≤ g) ∧ (∀ g, v6.ownBlock = some g → v.ownBlock ≠ some g)
  rows : RowsAt wz lo v bl
  store : StoreG wz P N S M pos num
  chg : Chg (N :: z6 :: (vs 6).ownBlock.toList) w wz
/-- one block more is written. -/
theorem Wl.step {w wz wy : World} {base N A c : Nat} {ops : Int} {Z : List Nat} {vs : Nat → Value} {gs : Nat → Nat} {zs : Nat → List (List UInt8)} {P S M pos num lo : Nat} {v : Value} {bl : List (List UInt8)} {j : Nat} (h6 : 6 < Z.length)
    (hj : j < bl.length) (hrows : RowsAt wz lo v bl) (hstore : StoreG wz P N S M pos num) (hchg : Chg (N :: Z[6] :: (vs 6).ownBlock.toList) w wz) {v6 v' : Value} (hd : DevG wz base N A c (ops + j) Z (upF vs 6 v6) gs (upF zs 6 (zs 6 ++ bl.take j))) (hn1 : ∀ g, v6.ownBlock = some g → (vs 6).ownBlock = some g ∨ w.heap.size ≤ g) (hn2 : ∀ g, v6.ownBlock = some g → v.ownBlock ≠ some g)
    (kc : Chg (N :: Z[6] :: (upF vs 6 v6 6).ownBlock.toList) wz wy) (hd' : DevG wy base N A c (ops + j + 1) Z (upF (upF vs 6 v6) 6 v') gs (upF (upF zs 6 (zs 6 ++ bl.take j)) 6 (upF zs 6 (zs 6 ++ bl.take j) 6 ++ [bl[j]])))
    (hv' : ∀ g, v'.ownBlock = some g → (upF vs 6 v6 6).ownBlock = some g ∨ wz.heap.size ≤ g) : Wl w wy base N A c ops Z vs gs zs Z[6] P S M pos num lo v bl (j + 1) := by
  rw [upF_same] at kc hv'
  rw [upF_twice, upF_twice, upF_same, List.append_assoc, ← List.take_succ_eq_append_getElem hj, show ops + (j : Int) + 1 = ops + ((j + 1 : Nat) : Int) by omega] at hd'
  have hz := hd.zone 6 h6
  have hr6 := hd.rows 6 (by omega)
  rw [upF_same] at hz hr6
  have hb23 := hr6.block
  have hs := hchg.size
  have rb := hrows.block
  have av : Av wz (N :: Z[6] :: v6.ownBlock.toList) [5, 102] := fun x hx cs t fr hh => by
    rcases List.mem_cons.1 hx with rfl | hx
    · rw [hd.hdr] at hh; cases hh; simp
    · rcases List.mem_cons.1 hx with rfl | hx
      · rw [hz] at hh; cases hh; simp
      · obtain ⟨cs2, h2⟩ := hb23 x (by simpa using hx)
        rw [h2] at hh; cases hh; simp
  refine ⟨⟨v', hd', fun g hg => ?_, fun g hg hvg => ?_⟩, hrows.keep kc (fun x hx cs t fr hh ht => av x hx cs t fr hh (by simp at ht; simp [ht])) (fun g hg hm => ?_), kc.heap hstore (av.ne hstore (by simp)), hchg.trans kc (fun x hx hlt => ?_)⟩
  · rcases hv' g hg with h | h
    · exact hn1 g h
    · exact Or.inr (by omega)
  · rcases hv' g hg with h | h
    · exact hn2 g h hvg
    · obtain ⟨cs, h2⟩ := rb g hvg
      have := heap_lt h2
      omega
  · obtain ⟨cs, h2⟩ := rb g hg
    rcases List.mem_cons.1 hm with rfl | hm
    · rw [hd.hdr] at h2; cases h2
    · rcases List.mem_cons.1 hm with rfl | hm
      · rw [hz] at h2; cases h2
      · exact hn2 g (by simpa using hm) hg
  · rcases List.mem_cons.1 hx with rfl | hx
    · exact List.mem_cons_self
    · rcases List.mem_cons.1 hx with rfl | hx
      · exact List.mem_cons_of_mem _ List.mem_cons_self
      · rcases hn1 x (by simpa using hx) with h | h
        · exact List.mem_cons_of_mem _ (List.mem_cons_of_mem _ (by simpa using h))
        · omega
end Go.Proofs.YtelakcjbknbehaaGreat
namespace Go.Proofs.YtelakcjbknbehaaGreat
open Go.RowKit Go.Lib

theorem BookAt.keepT {w w' : World} {T : List Nat} {B rb : Nat} {last : Int} {L : List (Int × Value)} (h : BookAt w B rb last L) (hc : Chg T w w') (h1 : B ∉ T) (h2 : rb ∉ T) : BookAt w' B rb last L := ⟨hc.heap h.1 h1, h.2.keep hc h2⟩
set_option maxRecDepth 100000 in
theorem bat_ok (w : World) {B rb : Nat} {last k t : Int} {L : List (Int × Value)} (h : BookAt w B rb last L) (hg : getL L k = some (.int .i64 t)) : Calls Tryz.prog 224 #[.pointer (some ⟨B, 0, none⟩), .int .i64 k] w fun e w' => e = .returned (.tuple #[.int .i64 t, .int .i64 0]) ∧ w = w' := by
  have c2 : w.cell? ⟨B, 2, none⟩ = some (.map (some rb)) := cell_is h.1 2 rfl
  have hl : (Instr.lookup 263 (.map (some rb)) (.int .i64 k) true).run Tryz.prog w = .ok (.tuple #[.int .i64 t, .bool true]) w := by
    have := lookup268 h.2 k true
    rw [hg] at this
    exact this
  clear h hg
  go_enter Tryz.func224, Tryz.ntmps224
  go_wp2_with fail
  go_ret2
  exact ⟨rfl, rfl⟩
set_option maxRecDepth 100000 in
theorem bclose_ok (w : World) {B rb : Nat} {last k t : Int} {L : List (Int × Value)} (h : BookAt w B rb last L) (hg : getL L k = some (.int .i64 t)) : Calls Tryz.prog 187 #[.pointer (some ⟨B, 0, none⟩), .int .i64 k] w fun e w' =>
    e = .returned (.int .i64 0) ∧ BookAt w' B rb last (delL L k) ∧ Chg [rb] w w' := by
  have HA := Lib.hid (bat_ok w h hg)
  have c2 : w.cell? ⟨B, 2, none⟩ = some (.map (some rb)) := cell_is h.1 2 rfl
  obtain ⟨w1, hd0, h1, h2, -⟩ := run_delete_im (P := Tryz.prog) (mty := 263) (kt := 3) (et := 3) (by kernel_rfl) (by kernel_rfl) h.2 k 0
  have hd : ∀ ty, (Builtin.delete_ #[263, 3] ty #[.map (some rb), .int .i64 k]).run Tryz.prog w = .ok (.tuple #[]) w1 := fun ty => hd0
  have hB1 : BookAt w1 B rb last (delL L k) := ⟨h2.heap h.1 (by simpa using (map_cells h.2 h.1).symm), h1⟩
  have HB := Lib.hid hB1
  clear h hg h1 hB1
  go_enter Tryz.func187, Tryz.ntmps187
  go_wp2_with fail
  refine HA.out.mono ?_
  rintro e w2 ⟨rfl, rfl⟩
  go_wp2_with fail
  go_ret
  exact ⟨rfl, HB.out, h2⟩
set_option maxRecDepth 100000 in
theorem tend_ok (w : World) {M X B r T W Q rb : Nat} {qv : Value} {out num bas last given bl h t0 : Int} {rd : Bool} {Lr Lb : List (Int × Value)} {s0 c0 k t : Int} (hM : MgrG w M X B r qv out num bas last given rd) (hr : MapAt w r Lr) (hg : getL Lr h = some (.pointer (some ⟨T, 0, none⟩)))
    (hT : w.heap[T]? = some (.cells #[.int .i64 s0, .int .i64 k, .int .i64 c0, .int .i64 t, .pointer (some ⟨W, 0, none⟩), .pointer (some ⟨Q, 0, none⟩)] 203 (0, 0))) (hB : BookAt w B rb bl Lb) (hb : getL Lb h = some (.int .i64 t0)) :
    Calls Tryz.prog 121 #[.pointer (some ⟨M, 0, none⟩), .int .i64 h, .int .i64 3, .int .i64 0] w fun e w' => e = .returned (.tuple #[]) ∧ Chg [T, rb] w w' ∧ BookAt w' B rb bl (delL Lb h) ∧
      w'.heap[T]? = some (.cells #[.int .i64 3, .int .i64 k, .int .i64 0, .int .i64 t, .pointer (some ⟨W, 0, none⟩), .pointer (some ⟨Q, 0, none⟩)] 203 (0, 0)) := by
  have m2 : w.cell? ⟨M, 2, none⟩ = some (.map (some r)) := cell_is hM 2 rfl
  have m1 : w.cell? ⟨M, 1, none⟩ = some (.pointer (some ⟨B, 0, none⟩)) := cell_is hM 1 rfl
  have hl : (Instr.lookup 193 (.map (some r)) (.int .i64 h) false).run Tryz.prog w = .ok (.pointer (some ⟨T, 0, none⟩)) w := by
    have := lookup178 hr h false
    rw [hg] at this
    exact this
  have t0' : w.cell? ⟨T, 0, none⟩ = some (.int .i64 s0) := cell_is hT 0 rfl
  have t2' : w.cell? ⟨T, 2, none⟩ = some (.int .i64 c0) := cell_is hT 2 rfl
  have f0 := unfrozen hT 0
  have f2 := unfrozen hT 2
  have hBT : B ≠ T := heap_ne hB.1 hT (by simp)
  have hrT : rb ≠ T := map_cells hB.2 hT
  have hMT : M ≠ T := heap_ne hM hT (by simp)
  have hTS := heap_set (heap_set hT 0 (.int .i64 3) rfl) 2 (.int .i64 0) rfl
  have kS : Chg [T] w ((w.setCell ⟨T, 0, none⟩ (.int .i64 3)).setCell ⟨T, 2, none⟩ (.int .i64 0)) := ((Chg.refl [T] w).then_set (fun _ => by simp) 0 _).then_set (fun _ => by simp) 2 _
  have hBS := hB.keepT kS (by simpa using hBT) (by simpa using hrT)
  have HC := Lib.hid (bclose_ok _ hBS hb)
  have m1S := kS.cell m1 (by simpa using hMT)
  have HTS := Lib.hid hTS
  clear hM hr hg hT hB hb hBS hTS
  go_enter Tryz.func121, Tryz.ntmps121
  go_wp2_with fail
  refine HC.out.mono ?_
  rintro e w2 ⟨rfl, h1, h2⟩
  go_wp2_with fail
  refine bodyPost_end (v := .tuple #[]) (by simp [results, Tryz.results121, go_sem]) rfl ?_
  exact ⟨rfl, (kS.mono (fun x hx _ => by simp at hx; simp [hx])).then (h2.mono (fun x hx _ => by simp at hx; simp [hx])), h1, h2.heap HTS.out (by simpa using hrT.symm)⟩
end Go.Proofs.YtelakcjbknbehaaGreat
namespace Go.Proofs.YtelakcjbknbehaaGreat
open Go.RowKit Go.Lib

/-- nothing is put behind an empty row of ints. -/
theorem append_zero (w : World) (z g o c : Nat) (ty : TypeId) : (Builtin.append_ #[115, 115] ty #[.slice (some ⟨z, 0, none⟩) 0 0, .slice (some ⟨g, o, none⟩) 0 c]).run Tryz.prog w = .ok (.slice (some ⟨z, 0, none⟩) 0 0) w := by
  obtain ⟨i, hi0, hz, hz1, hz2⟩ := info_parts inf3
  simp [Builtin.append_, run_underlying ty62, sizeOf, typeInfo, hi0, Builtin.lenOf, Builtin.firstCells, storeCells, loadCells, loadCellsFrom, Result.andThen]
set_option maxRecDepth 100000 in
theorem iclone_zero (w : World) (g o c : Nat) : Calls Tryz.prog 138 #[.slice (some ⟨g, o, none⟩) 0 c] w fun e w' => ∃ z, e = .returned (.slice (some ⟨z, 0, none⟩) 0 0) ∧ Chg [] w w' ∧ w'.ownsRow w.heap.size 3 1 (.slice (some ⟨z, 0, none⟩) 0 0) 0 [] := by
  have hn : ∀ w, (binOp .eql 115 (.slice (some ⟨g, o, none⟩) 0 c) (.slice none 0 0)).run Tryz.prog w = .ok (.bool false) w := fun w => Lib.run_eql_slice_nil w 115 3 _ _ _ 0 0 ty62
  have ha := fun z w ty => append_zero w z g o c ty
  go_enter Tryz.func138, Tryz.ntmps138
  go_wp2_with fail
  go_ret
  exact ⟨w.heap.size, rfl, Chg.alloc w _, rfl, Or.inr ⟨w.heap.size, 0, #[], rfl, Nat.le_refl _, heap_new _ _, Nat.le_refl _, by unfold maxLen; omega, rfl, rfl⟩⟩
theorem wpList_append_int2 {ops : Array Oper} {rest : List Oper} {o : Oper} {a : Act} {w : World} {Q : Exit → Act → World → Prop} (hgd : o.guard = none) (s x : Operand)
    (ho : o.op = .call { callee := .builtin .append, args := #[s, x], argTypes := #[115, 115] }) (z b c : Nat) (k : Int) (hs : a.eval s = .slice (some ⟨z, 0, none⟩) 0 0) (hz : w.heap[z]? = some (.cells #[] 3 (0, 0)))
    (hx : a.eval x = .slice (some ⟨b, 0, none⟩) 1 c) (hb : w.cell? ⟨b, 0, none⟩ = some (.int .i64 k))
    (h : ∀ g cap w', Chg [z] w w' → w'.ownsRow z 3 1 (.slice (some ⟨g, 0, none⟩) 1 cap) 1 [.int .i64 k] → wpList Tryz.prog ops Q rest (a.put o.dst (.slice (some ⟨g, 0, none⟩) 1 cap)) w') : wpList Tryz.prog ops Q (o :: rest) a w := by
  obtain ⟨i, hi0, hz0, hz1, hz2⟩ := info_parts inf3
  have hown : w.ownsRow z 3 1 (.slice (some ⟨z, 0, none⟩) 0 0) 0 [] := ⟨rfl, Or.inr ⟨z, 0, #[], rfl, Nat.le_refl _, hz, Nat.le_refl _, by unfold maxLen; omega, rfl, rfl⟩⟩
  refine wpList_append_lies w hgd s x 115 ho z 3 i _ 1 8 ty62 hi0 hz0 hz1 hz2 rfl (by decide) _ 0 [] hs hown ⟨b, 0, none⟩ 1 c [.int .i64 k] hx rfl ?_ ?_ (by decide) (by unfold maxLen; omega) (by omega) (Nat.le_of_lt (heap_lt hz)) _ rfl ?_
  · intro j u hu
    rw [add_lit, Nat.zero_add]
    match j with
    | 0 => cases hu; exact hb
    | j + 1 => simp at hu
  · intro u hu
    simp at hu
    subst hu
    rfl
  · intro g cap w' h1 h3 _ _
    exact h g cap w' (Chg.of_grown h3) h1
set_option maxRecDepth 100000 in
theorem iclone_one (w : World) {g c : Nat} {k : Int} (h0 : w.cell? ⟨g, 0, none⟩ = some (.int .i64 k)) : Calls Tryz.prog 138 #[.slice (some ⟨g, 0, none⟩) 1 c] w fun e w' =>
    ∃ g' c', e = .returned (.slice (some ⟨g', 0, none⟩) 1 c') ∧ Chg [] w w' ∧ w'.ownsRow w.heap.size 3 1 (.slice (some ⟨g', 0, none⟩) 1 c') 1 [.int .i64 k] := by
  have hn : ∀ w, (binOp .eql 115 (.slice (some ⟨g, 0, none⟩) 1 c) (.slice none 0 0)).run Tryz.prog w = .ok (.bool false) w := fun w => Lib.run_eql_slice_nil w 115 3 _ _ _ 0 0 ty62
  have k0 : Chg [] w (w.alloc (.cells #[] 3)) := Chg.alloc w _
  have hb := k0.cell h0 (by simp)
  have hz := heap_new w (.cells #[] 3)
  clear h0
  go_enter Tryz.func138, Tryz.ntmps138
  go_wp2_with (first | (at_builtin; refine wpList_append_int2 rfl (.tmp 5) (.tmp 6) rfl w.heap.size g c k rfl hz rfl hb ?_; intro g2 c2 w2 k2 o2))
  go_ret
  exact ⟨g2, c2, rfl, k0.trans k2 (fun x hx hlt => by simp at hx; omega), o2⟩
end Go.Proofs.YtelakcjbknbehaaGreat
namespace Go.Proofs.YtelakcjbknbehaaGreat
open Go.RowKit Go.Lib

set_option maxRecDepth 100000 in
set_option maxHeartbeats 1000000 in
theorem rise_ok (w : World) {lo cb : Nat} {pb : Option Addr} {l : List (Int × List UInt8)} (hp : PutsAt w lo (.slice pb l.length cb) l) (hr : Rise l) (hl0 : 0 < l.length) (hl : l.length ≤ 1000) : Calls Tryz.prog 197 #[.slice pb l.length cb] w fun e w' => e = .returned (.bool true) ∧ Chg [] w w' := by
  have HP := Lib.hid hp
  have HR := Lib.hid hr
  have n2 : decide (0 < (l.length : Int)) = true := decide_eq_true (by omega)
  clear hp hr
  go_enter Tryz.func197, Tryz.ntmps197
  go_wp2_with fail
  go_loopw [3] (fun i wz => ∃ j : Nat, 1 ≤ j ∧ j ≤ l.length ∧ i = .int .i64 j ∧ Chg [] w wz) (fun i _ => l.length - (intOf i).toNat)
  case atStart => exact ⟨1, by omega, by omega, rfl, Chg.refl _ _⟩
  case round =>
    obtain ⟨j, hj1, hj, rfl, kz⟩ := hrel
    rename World => wz
    by_cases hlt : j < l.length
    · obtain ⟨q, rfl⟩ : ∃ q, j = q + 1 := ⟨j - 1, by omega⟩
      have hP2 := HP.out.keep0 kz
      obtain ⟨gp, cap, gd, cd, hv, hcap, d1, -, -, -, -⟩ := hP2.get (q + 1) hlt
      obtain ⟨gp', cap', gd', cd', hv', -, d0, -, -, -, -⟩ := hP2.get q (by omega)
      cases hv
      cases hv'
      have hlt2 := HR.out q hlt
      have hnle : decide ((l[q + 1]).1 ≤ (l[q]'(by omega)).1) = false := decide_eq_false (by omega)
      have hwq : IntKind.i64.wrap (((q + 1 : Nat) : Int) - 1) = q := by rw [IntKind.wrap_i64]; omega
      have hqi : (q : Int) < l.length := by omega
      have hqi2 : ((q + 1 : Nat) : Int) < l.length := by omega
      clear hP2 HP HR hlt2
      generalize (l[q + 1]).1 = x at *
      generalize (l[q]'(by omega)).1 = y at *
      go_wp2_with fail
      go_quiet (fail)
      go_wp2_with fail
      exact ⟨⟨q + 2, by omega, by omega, by go_num, kz.drewN nq⟩, by simp [intOf]; omega⟩
    · obtain rfl : j = l.length := by omega
      go_wp2_with fail
      go_ret
      exact ⟨rfl, kz⟩
theorem ty265 : Tryz.prog.underlying 286 = some (.slice 288) := by kernel_rfl
theorem inf267 : (Tryz.prog.info? 288).map (fun i => (i.zero, i.size, i.bytes)) = some (some (.agg #[.int .i64 0, .slice none 0 0]), 2, 32) := by kernel_rfl
/-- a version is put behind others, as a step of a region that draws. -/
theorem step_append_ver {ops : Array Oper} {o : Oper} {a : Act} {w : World} {K : Act → World → Prop} {Q : Exit → Act → World → Prop} {E : Prop} (hgd : o.guard = none) (s x : Operand)
    (ho : o.op = .call { callee := .builtin .append, args := #[s, x], argTypes := #[286, 286] }) (base : Nat) (v : Value) (n : Nat) (xs : List Value) (hs : a.eval s = v) (hown : w.ownsRow base 288 2 v n xs) (b c : Nat) (u0 u1 : Value)
    (hx : a.eval x = .slice (some ⟨b, 0, none⟩) 1 c) (c0 : w.cell? ⟨b, 0, none⟩ = some u0) (c1 : w.cell? ⟨b, 1, none⟩ = some u1) (h1 : u0.oneCell' = true ∧ u1.oneCell' = true) (hn : n ≤ 1000000) (hbase : base ≤ w.heap.size)
    (h : ∀ g cap w', w'.ownsRow base 288 2 (.slice (some ⟨g, 0, none⟩) (n + 1) cap) (n + 1) (xs ++ [u0, u1]) → Chg v.ownBlock.toList w w' → (v.ownBlock = some g ∨ g = w.heap.size) → K (a.put o.dst (.slice (some ⟨g, 0, none⟩) (n + 1) cap)) w') :
    if Region.wanted o (yielded ops a.tmps) = true then Oper.wp Tryz.prog o a w K Q else E := by
  obtain ⟨i, hi0, hz, hz1, hz2⟩ := info_parts inf267
  refine step_append_lies w hgd s x 286 ho base 288 i _ 2 32 ty265 hi0 hz hz1 hz2 rfl (by decide) v n xs hs hown ⟨b, 0, none⟩ 1 c [u0, u1] hx rfl ?_ ?_ (by decide) (by unfold maxLen; omega) (by omega) hbase _ rfl ?_
  · intro j u hu
    rw [add_lit, Nat.zero_add]
    match j with
    | 0 => cases hu; exact c0
    | 1 => cases hu; exact c1
    | j + 2 => simp at hu
  · intro u hu
    simp at hu
    rcases hu with rfl | rfl
    · exact h1.1
    · exact h1.2
  · intro g cap w' h2 h3 h4 _
    refine h g cap w' h2 ?_ h4
    cases hv : v.ownBlock with
    | none => rw [hv] at h3; exact Chg.of_grown0 h3
    | some k => rw [hv] at h3; exact Chg.of_grown h3
theorem VRow.nil (w : World) (lo : Nat) : VRow w lo (.slice none 0 0) [] := ⟨[], World.ownsRow_nil _ _ _ _, fun i h => by simp at h⟩
/-- .. when a version is put behind them. -/
theorem VRow.push {w w' : World} {lo gb cb n : Nat} {v v' : Value} {l : List (Int × List UInt8)} {k : Int} {b : List UInt8} {xs : List Value} (hx : ∀ i (h : i < l.length), xs[i * 2]? = some (.int .i64 l[i].1) ∧ ∃ g c, xs[i * 2 + 1]? = some (.slice (some ⟨g, 0, none⟩) 40 c) ∧ Bs w (some ⟨g, 0, none⟩) l[i].2 ∧ l[i].2.length = 40 ∧ Bt w g)
    (hl : xs.length = l.length * 2) (hn : n = l.length) (hv : ∀ g, v.ownBlock = some g → ∃ cs, w.heap[g]? = some (.cells cs 288 (0, 0))) (ho : w'.ownsRow lo 288 2 v' (n + 1) (xs ++ [.int .i64 k, .slice (some ⟨gb, 0, none⟩) 40 cb])) (hc : Chg v.ownBlock.toList w w')
    (hb : Bs w (some ⟨gb, 0, none⟩) b) (hb4 : b.length = 40) (hbt : Bt w gb) : VRow w' lo v' (l ++ [(k, b)]) := by
  subst hn
  have hne : ∀ {g}, Bt w g → g ∉ v.ownBlock.toList := by
    rintro g ⟨cs2, h2⟩ hm
    obtain ⟨cs, h1⟩ := hv g (by simpa using hm)
    rw [h1] at h2
    cases h2
  have keepB : ∀ {g}, Bt w g → Bt w' g := fun {g} h => by
    obtain ⟨cs, h2⟩ := id h
    exact ⟨cs, hc.heap h2 (hne h)⟩
  refine ⟨_, by rw [List.length_append]; exact ho, fun i hi => ?_⟩
  by_cases h : i < l.length
  · obtain ⟨h0, g, c, h1, h2, h3, h4⟩ := hx i h
    rw [List.getElem_append_left h]
    exact ⟨by rw [List.getElem?_append_left (by omega)]; exact h0, g, c, by rw [List.getElem?_append_left (by omega)]; exact h1, h2.chgT hc (hne h4), h3, keepB h4⟩
  · have hi2 : i = l.length := by simp at hi; omega
    subst hi2
    have e : (l ++ [(k, b)])[l.length]'(by simp) = (k, b) := by simp
    rw [e]
    exact ⟨by rw [← hl]; simp, gb, cb, by rw [← hl, List.getElem?_append_right (by omega)]; simp, hb.chgT hc (hne hbt), hb4, keepB hbt⟩
theorem getL_memk {L : List (Int × Value)} {k : Int} {v : Value} (h : getL L k = some v) : (k, v) ∈ L := by
  induction L with
  | nil => cases h
  | cons p l ih =>
    simp only [getL] at h
    split at h
    · rename_i hk
      injection h with h
      subst hk h
      exact List.mem_cons_self
    · exact List.mem_cons_of_mem _ (ih h)
/-- the rows of unlike blocks lie apart. -/
def ApL (L : List (Int × Value)) : Prop := ∀ b c v u g, b ≠ c → getL L b = some v → getL L c = some u → v.ownBlock = some g → u.ownBlock ≠ some g
/-- versions with one more of one block. -/
def addV (vs : Int → List (Int × List UInt8)) (b : Int) (x : Int × List UInt8) : Int → List (Int × List UInt8) := fun k => if k = b then vs k ++ [x] else vs k
/-- .. with a transaction's puts at its time. -/
def applyV (vs : Int → List (Int × List UInt8)) (k : Int) (l : List (Int × List UInt8)) : Int → List (Int × List UInt8) := l.foldl (fun vs p => addV vs p.1 (k, p.2)) vs
theorem applyV_take (vs : Int → List (Int × List UInt8)) (k : Int) (l : List (Int × List UInt8)) (j : Nat) (h : j < l.length) : applyV vs k (l.take (j + 1)) = addV (applyV vs k (l.take j)) l[j].1 (k, l[j].2) := by
  unfold applyV
  rw [List.take_succ_eq_append_getElem h, List.foldl_append]
  rfl
theorem addV_len (vs : Int → List (Int × List UInt8)) (b : Int) (x : Int × List UInt8) (c : Int) : (addV vs b x c).length ≤ (vs c).length + 1 := by
  unfold addV
  split <;> simp
theorem applyV_len (vs : Int → List (Int × List UInt8)) (k : Int) (l : List (Int × List UInt8)) (c : Int) : (applyV vs k l c).length ≤ (vs c).length + l.length := by
  induction l generalizing vs with
  | nil => exact Nat.le_refl _
  | cons p l ih =>
    have h1 := ih (addV vs p.1 (k, p.2))
    have h2 := addV_len vs p.1 (k, p.2) c
    show (applyV (addV vs p.1 (k, p.2)) k l c).length ≤ _
    simp only [List.length_cons]
    omega
/-- what of memory may change where versions are added. -/
def Cv (lo X rx : Nat) (w w' : World) : Prop := ∃ T, Chg T w w' ∧ ∀ x ∈ T, x < w.heap.size → x = X ∨ x = rx ∨ (lo ≤ x ∧ ∃ cs, w.heap[x]? = some (.cells cs 288 (0, 0)))
theorem Cv.of_chg {lo X rx : Nat} {w w' : World} (h : Chg [] w w') : Cv lo X rx w w' := ⟨[], h, fun x hx => by cases hx⟩
theorem Cv.trans {lo X rx : Nat} {a b c : World} (h : Cv lo X rx a b) (k : Cv lo X rx b c) : Cv lo X rx a c := by
  obtain ⟨T, h1, h2⟩ := h
  obtain ⟨U, k1, k2⟩ := k
  refine ⟨T ++ U, (h1.mono (fun x hx _ => List.mem_append_left _ hx)).trans k1 (fun x hx _ => List.mem_append_right _ hx), fun x hx hlt => ?_⟩
  by_cases hT : x ∈ T
  · exact h2 x hT hlt
  · rcases List.mem_append.1 hx with h | h
    · exact absurd h hT
    · rcases k2 x h (Nat.lt_of_lt_of_le hlt h1.size) with e | e | ⟨e, cs, hh⟩
      · exact Or.inl e
      · exact Or.inr (Or.inl e)
      · exact Or.inr (Or.inr ⟨e, cs, by rw [← h1.block x hlt hT]; exact hh⟩)
theorem Cv.then {lo X rx : Nat} {a b c : World} (h : Cv lo X rx a b) (k : Chg [] b c) : Cv lo X rx a c := h.trans (Cv.of_chg k)
theorem Cv.size {lo X rx : Nat} {w w' : World} (h : Cv lo X rx w w') : w.heap.size ≤ w'.heap.size := by obtain ⟨T, h1, _⟩ := h; exact h1.size
/-- what holds of other blocks goes on to hold. -/
theorem Cv.av {lo X rx : Nat} {w : World} {T ts : List Nat} {csX : Array Value} {L : List (Int × Value)} (hT : ∀ x ∈ T, x < w.heap.size → x = X ∨ x = rx ∨ (lo ≤ x ∧ ∃ cs, w.heap[x]? = some (.cells cs 288 (0, 0)))) (hX : w.heap[X]? = some (.cells csX 270 (0, 0))) (hr : MapAt w rx L) (h1 : 270 ∉ ts) (h2 : 288 ∉ ts) : Av w T ts := by
  intro x hx cs t fr hh
  rcases hT x hx (heap_lt hh) with rfl | rfl | ⟨-, cs2, h3⟩
  · rw [hX] at hh; cases hh; exact h1
  · exact absurd rfl (map_cells hr hh)
  · rw [h3] at hh; cases hh; exact h2
theorem Cv.map {lo X rx r : Nat} {w : World} {T : List Nat} {csX : Array Value} {L : List (Int × Value)} (hT : ∀ x ∈ T, x < w.heap.size → x = X ∨ x = rx ∨ (lo ≤ x ∧ ∃ cs, w.heap[x]? = some (.cells cs 288 (0, 0)))) (hX : w.heap[X]? = some (.cells csX 270 (0, 0))) (hr : MapAt w r L) (h : r ≠ rx) : r ∉ T := by
  intro hm
  rcases hT r hm hr.lt with e | e | ⟨-, cs2, h3⟩
  · exact map_cells hr hX e
  · exact h e
  · exact map_cells hr h3 rfl
/-- a version is put behind those of one block. -/
theorem VerG.added {wx wA wB : World} {lo X rx g cap gb cb n : Nat} {last b k : Int} {L : List (Int × Value)} {vs : Int → List (Int × List UInt8)} {v : Value} {d : List UInt8} {xs : List Value} (h : VerG wx lo X rx last L vs) (hap : ApL L) (hkeys : ∀ p ∈ L, 0 ≤ p.1 ∧ p.1 < 258) (hgl : getL L b = some v ∨ getL L b = none ∧ v = .slice none 0 0)
    (hown : wx.ownsRow lo 288 2 v n xs) (hx : ∀ i (h : i < (vs b).length), xs[i * 2]? = some (.int .i64 (vs b)[i].1) ∧ ∃ g c, xs[i * 2 + 1]? = some (.slice (some ⟨g, 0, none⟩) 40 c) ∧ Bs wx (some ⟨g, 0, none⟩) (vs b)[i].2 ∧ (vs b)[i].2.length = 40 ∧ Bt wx g) (hn : n = (vs b).length)
    (hA : wA.ownsRow lo 288 2 (.slice (some ⟨g, 0, none⟩) (n + 1) cap) (n + 1) (xs ++ [.int .i64 k, .slice (some ⟨gb, 0, none⟩) 40 cb])) (kA : Chg v.ownBlock.toList wx wA) (hg : v.ownBlock = some g ∨ g = wx.heap.size)
    (hB : Bs wx (some ⟨gb, 0, none⟩) d) (hd : d.length = 40) (hBt : Bt wx gb) (mB : MapAt wB rx (putL L b (.slice (some ⟨g, 0, none⟩) (n + 1) cap))) (kB : Chg [rx] wA wB) (hs : ∀ c, (vs c).length < 1000000) :
    VerG wB lo X rx last (putL L b (.slice (some ⟨g, 0, none⟩) (n + 1) cap)) (addV vs b (k, d)) ∧ ApL (putL L b (.slice (some ⟨g, 0, none⟩) (n + 1) cap)) ∧ Cv lo X rx wx wB := by
  have hvb : ∀ g, v.ownBlock = some g → lo ≤ g ∧ ∃ cs, wx.heap[g]? = some (.cells cs 288 (0, 0)) := fun g hg => by
    obtain ⟨h1, cs, h2⟩ := own_elem hown hg
    exact ⟨h1, cs, h2⟩
  have mA : MapAt wA rx L := h.m.keep kA (fun hm => by
    obtain ⟨-, cs, h2⟩ := hvb rx (by simpa using hm)
    exact map_cells h.m h2 rfl)
  have hXv : X ∉ v.ownBlock.toList := own_block_ne hown h.x (by decide)
  have hXA := kA.heap h.x hXv
  have avA : Av wx v.ownBlock.toList [5] := fun x hx cs t fr hh => by
    obtain ⟨-, cs2, h2⟩ := hvb x (by simpa using hx)
    rw [h2] at hh; cases hh; simp
  have avB : Av wA [rx] [5] := av_map mA _
  refine ⟨⟨kB.heap hXA (by simpa using (map_cells mA hXA).symm), mB, fun c c0 c1 => ?_, fun c => ?_⟩, ?_, ?_⟩
  · rw [getL_put]
    by_cases hc : c = b
    · subst hc
      rw [if_pos rfl]
      refine Or.inr ⟨_, rfl, ?_, by simp [addV]⟩
      have hr : VRow wA lo (.slice (some ⟨g, 0, none⟩) (n + 1) cap) (vs c ++ [(k, d)]) := VRow.push hx (by have := hown.1; omega) hn (fun g hg => (hvb g hg).2) hA kA hB hd hBt
      have hr2 := hr.keep kB avB (fun g' hg' hm => by
        obtain ⟨cs, h2⟩ := hr.block g' hg'
        rw [List.mem_singleton] at hm
        subst hm
        exact map_cells mA h2 rfl)
      simpa [addV] using hr2
    · rw [if_neg hc]
      rcases h.row c c0 c1 with ⟨e1, e2⟩ | ⟨u, e1, e2, e3⟩
      · exact Or.inl ⟨e1, by simp [addV, hc, e2]⟩
      · refine Or.inr ⟨u, e1, ?_, by simp [addV, hc, e3]⟩
        have hr := e2.keep kA avA (fun g' hg' hm => by
          have hm' : v.ownBlock = some g' := by simpa using hm
          rcases hgl with e | ⟨-, rfl⟩
          · exact hap c b u v g' hc e1 e hg' hm'
          · cases hm')
        have hr2 := hr.keep kB avB (fun g' hg' hm => by
          obtain ⟨cs, h2⟩ := hr.block g' hg'
          rw [List.mem_singleton] at hm
          subst hm
          exact map_cells mA h2 rfl)
        simpa [addV, hc] using hr2
  · have := addV_len vs b (k, d) c
    have := hs c
    omega
  · intro c1 c2 v1 v2 gg hne h1 h2 e1 e2
    rw [getL_put] at h1 h2
    have key : ∀ c u gg, c ≠ b → getL L c = some u → u.ownBlock = some gg → g ≠ gg := by
      rintro c u gg hc hu hug rfl
      rcases hg with hg | hg
      · rcases hgl with e | ⟨-, rfl⟩
        · exact hap c b u v g hc hu e hug hg
        · cases hg
      · by_cases hr : 0 ≤ c ∧ c < 258
        · rcases h.row c hr.1 hr.2 with ⟨x1, -⟩ | ⟨u', x1, x2, -⟩
          · rw [x1] at hu; cases hu
          · rw [x1] at hu; cases hu
            obtain ⟨cs, h5⟩ := x2.block g hug
            have := heap_lt h5
            omega
        · exact absurd (hkeys _ (getL_memk hu)) hr
    by_cases hc1 : c1 = b
    · rw [if_pos hc1] at h1
      cases h1
      have hc2 : c2 ≠ b := fun e => hne (hc1.trans e.symm)
      rw [if_neg hc2] at h2
      have e1' : g = gg := Option.some.inj e1
      exact key c2 v2 gg hc2 h2 e2 e1'
    · rw [if_neg hc1] at h1
      by_cases hc2 : c2 = b
      · rw [if_pos hc2] at h2
        cases h2
        have e2' : g = gg := Option.some.inj e2
        exact key c1 v1 gg hc1 h1 e1 e2'
      · rw [if_neg hc2] at h2
        exact hap c1 c2 v1 v2 gg hne h1 h2 e1 e2
  · refine ⟨v.ownBlock.toList ++ [rx], (kA.mono (fun x hx _ => List.mem_append_left _ hx)).trans kB (fun x hx _ => List.mem_append_right _ hx), fun x hx _ => ?_⟩
    rcases List.mem_append.1 hx with h | h
    · exact Or.inr (Or.inr (hvb x (by simpa using h)))
    · exact Or.inr (Or.inl (by simpa using h))
end Go.Proofs.YtelakcjbknbehaaGreat
namespace Go.Proofs.YtelakcjbknbehaaGreat
open Go.RowKit Go.Lib

theorem upd258 {w : World} {r : Nat} {L : List (Int × Value)} (hM : MapAt w r L) (k : Int) (v : Value) :
    (Instr.mapUpdate 268 (.map (some r)) (.int .i64 k) v).run Tryz.prog w = .ok () (updW w 268 r k v) ∧ MapAt (updW w 268 r k v) r (putL L k v) ∧ Chg [r] w (updW w 268 r k v) :=
  updW_is (mty := 268) (kt := 3) (et := 286) (by kernel_rfl) (by kernel_rfl) hM k v
/-- the own row of a block's versions. -/
theorem VerG.own {w : World} {lo X rx : Nat} {last : Int} {L : List (Int × Value)} {vs : Int → List (Int × List UInt8)} {b : Int} (h : VerG w lo X rx last L vs) (h0 : 0 ≤ b) (h1 : b < 258) : ∃ v xs, (getL L b).getD (.slice none 0 0) = v ∧ (getL L b = some v ∨ getL L b = none ∧ v = .slice none 0 0) ∧ w.ownsRow lo 288 2 v (vs b).length xs ∧
    ∀ i (h : i < (vs b).length), xs[i * 2]? = some (.int .i64 (vs b)[i].1) ∧ ∃ g c, xs[i * 2 + 1]? = some (.slice (some ⟨g, 0, none⟩) 40 c) ∧ Bs w (some ⟨g, 0, none⟩) (vs b)[i].2 ∧ (vs b)[i].2.length = 40 ∧ Bt w g := by
  rcases h.row b h0 h1 with ⟨e1, e2⟩ | ⟨u, e1, ⟨xs, e2, e3⟩, -⟩
  · refine ⟨_, [], by rw [e1]; rfl, Or.inr ⟨e1, rfl⟩, ?_, fun i hi => ?_⟩
    · rw [e2]; exact World.ownsRow_nil _ _ _ _
    · rw [e2] at hi; simp at hi
  · exact ⟨u, xs, by rw [e1]; rfl, Or.inl e1, e2, e3⟩
theorem VerG.timed {w : World} {lo X rx : Nat} {last : Int} {L : List (Int × Value)} {vs : Int → List (Int × List UInt8)} (h : VerG w lo X rx last L vs) (k : Int) : VerG (w.setCell ⟨X, 2, none⟩ (.int .i64 k)) lo X rx k L vs := by
  have kS := Chg.set w X 2 (.int .i64 k)
  refine ⟨heap_set h.x 2 _ rfl, h.m.keep kS (by simpa using map_cells h.m h.x), fun b h0 h1 => ?_, h.small⟩
  rcases h.row b h0 h1 with e | ⟨v, e1, e2, e3⟩
  · exact Or.inl e
  · refine Or.inr ⟨v, e1, e2.keep kS (Av.row h.x (by decide)) (fun g hg hm => ?_), e3⟩
    obtain ⟨cs, hh⟩ := e2.block g hg
    rw [List.mem_singleton] at hm
    subst hm
    rw [h.x] at hh
    cases hh
/-- versions while a transaction is taken in: behind j puts. -/
structure Ap (w wr : World) (lo X rx : Nat) (last k : Int) (vs : Int → List (Int × List UInt8)) (l : List (Int × List UInt8)) (j : Nat) : Prop where
  ver : ∃ L, VerG wr lo X rx last L (applyV vs k (l.take j)) ∧ ApL L ∧ ∀ p ∈ L, 0 ≤ p.1 ∧ p.1 < 258
  cv : Cv lo X rx w wr
theorem Ap.keep {w wr wz : World} {lo X rx : Nat} {last k : Int} {vs : Int → List (Int × List UInt8)} {l : List (Int × List UInt8)} {j : Nat} (h : Ap w wr lo X rx last k vs l j) (hc : Chg [] wr wz) : Ap w wz lo X rx last k vs l j := by
  obtain ⟨L, h1, h2, h3⟩ := h.ver
  exact ⟨⟨L, h1.keep hc, h2, h3⟩, h.cv.then hc⟩
set_option maxRecDepth 100000 in
set_option maxHeartbeats 8000000 in
theorem apply_ok (w : World) {lo X rx lp cb : Nat} {last k : Int} {pb : Option Addr} {Lv : List (Int × Value)} {vs : Int → List (Int × List UInt8)} {l : List (Int × List UInt8)} (hv : VerG w lo X rx last Lv vs) (hap : ApL Lv) (hkeys : ∀ p ∈ Lv, 0 ≤ p.1 ∧ p.1 < 258) (hlo : lo ≤ w.heap.size)
    (hp : PutsAt w lp (.slice pb l.length cb) l) (hk : ∀ x ∈ l, 0 ≤ x.1 ∧ x.1 < 258) (hr : Rise l) (hl0 : 0 < l.length) (hl : l.length ≤ 16) (hk0 : last < k) (hk1 : k ≤ 1099511627776) (hs : ∀ c, (vs c).length + 16 < 1000000) :
    Calls Tryz.prog 139 #[.pointer (some ⟨X, 0, none⟩), .agg #[.int .i64 k, .slice pb l.length cb]] w fun e w' => e = .returned (.int .i64 0) ∧ Cv lo X rx w w' ∧ ∃ Lv', VerG w' lo X rx k Lv' (applyV vs k l) ∧ ApL Lv' ∧ ∀ p ∈ Lv', 0 ≤ p.1 ∧ p.1 < 258 := by
  obtain ⟨gp, cap, gd0, cd0, hvv, hcap, -, -, -, -, -⟩ := hp.get 0 hl0
  cases hvv
  have k0 : Chg [] w (w.alloc (.cells #[.int .i64 k, .slice (some ⟨gp, 0, none⟩) l.length cb] 185)) := Chg.alloc w _
  have K0 := heap_new w (.cells #[.int .i64 k, .slice (some ⟨gp, 0, none⟩) l.length cb] 185)
  have hv0 := hv.keep k0
  have hp0 := hp.keep0 k0
  have hA0 : Ap w (w.alloc (.cells #[.int .i64 k, .slice (some ⟨gp, 0, none⟩) l.length cb] 185)) lo X rx last k vs l 0 := ⟨⟨Lv, hv0, hap, hkeys⟩, Cv.of_chg k0⟩
  have x0 : (w.alloc (.cells #[.int .i64 k, .slice (some ⟨gp, 0, none⟩) l.length cb] 185)).cell? ⟨X, 0, none⟩ = some (.int .i64 258) := cell_is hv0.x 0 rfl
  have x2 : (w.alloc (.cells #[.int .i64 k, .slice (some ⟨gp, 0, none⟩) l.length cb] 185)).cell? ⟨X, 2, none⟩ = some (.int .i64 last) := cell_is hv0.x 2 rfl
  have b0 : (w.alloc (.cells #[.int .i64 k, .slice (some ⟨gp, 0, none⟩) l.length cb] 185)).cell? ⟨w.heap.size, 0, none⟩ = some (.int .i64 k) := cell_is K0 0 rfl
  have b1 : (w.alloc (.cells #[.int .i64 k, .slice (some ⟨gp, 0, none⟩) l.length cb] 185)).cell? ⟨w.heap.size, 1, none⟩ = some (.slice (some ⟨gp, 0, none⟩) l.length cb) := cell_is K0 1 rfl
  have HG := Lib.hid (xgone_any _ x0)
  have n0 : decide (k ≤ last) = false := decide_eq_false (by omega)
  have n1 : decide (1099511627776 < k) = false := decide_eq_false (by omega)
  have HKB := Lib.hid (fun w1 (kk : Chg [] (w.alloc (.cells #[.int .i64 k, .slice (some ⟨gp, 0, none⟩) l.length cb] 185)) w1) b (h0 : 0 ≤ b) (h1 : b < 258) => gblock_any w1 (b := b) (hv0.keep kk) h0 h1)
  have HRs := Lib.hid (fun w1 (kk : Chg [] (w.alloc (.cells #[.int .i64 k, .slice (some ⟨gp, 0, none⟩) l.length cb] 185)) w1) => rise_ok w1 (hp0.keep0 kk) hr hl0 (by omega))
  have HCp := Lib.hid (fun w1 (kk : Chg [] (w.alloc (.cells #[.int .i64 k, .slice (some ⟨gp, 0, none⟩) l.length cb] 185)) w1) => contputs_164 w1 (hp0.keep0 kk) hk (by omega))
  have HP := Lib.hid hp0
  have HA := Lib.hid hA0
  have HK := Lib.hid hk
  have HS := Lib.hid hs
  have hl0i : (0 : Int) < l.length := by omega
  have hcapi : (l.length : Int) ≤ cb := by omega
  have hmn : l.length - 1 < l.length := by omega
  clear hv hap hkeys hv0 hp hp0 hr hA0 hk x0 hs
  go_enter Tryz.func139, Tryz.ntmps139
  go_wp2_with fail
  generalize w.alloc (.cells #[.int .i64 k, .slice (some ⟨gp, 0, none⟩) l.length cb] 185) = w1 at *
  generalize hz : w.heap.size = z at *
  refine HG.out.mono ?_
  rintro e w2 ⟨rfl, rfl⟩
  go_wp2_with fail
  go_quiet (fail)
  have b0' : (w1.drewN nq).cell? ⟨z, 0, none⟩ = some (.int .i64 k) := b0
  have b1' : (w1.drewN nq).cell? ⟨z, 1, none⟩ = some (.slice (some ⟨gp, 0, none⟩) l.length cb) := b1
  have kd : Chg [] w1 (w1.drewN nq) := (Chg.refl [] w1).drewN nq
  have HAd := Lib.hid (HA.out.keep kd)
  have K0d := kd.heap K0 (by simp)
  clear b0 b1 x2 n0 n1 HA K0 HG
  go_wp2_with fail
  refine (HRs.out _ kd).mono ?_
  rintro e w2 ⟨rfl, k2⟩
  have hp2 := HP.out.keep0 (kd.then k2)
  obtain ⟨gp1, cap1, gd1, cd1, hv1, -, d0, -, -, -, -⟩ := hp2.get 0 hl0
  obtain ⟨gp2, cap2, gd2, cd2, hv2, -, dm, -, -, -, -⟩ := hp2.get (l.length - 1) hmn
  cases hv1
  cases hv2
  have hk0b := HK.out _ (List.getElem_mem hl0)
  have hkmb := HK.out _ (List.getElem_mem (hmn))
  have b12 := k2.cell b1' (by simp)
  have HB0 := Lib.hid (HKB.out w2 (kd.then k2) _ hk0b.1 hk0b.2)
  have HBm := Lib.hid (HKB.out w2 (kd.then k2) _ hkmb.1 hkmb.2)
  have HA2 := Lib.hid (HAd.out.keep k2)
  have K2 := k2.heap K0d (by simp)
  clear HRs b1' hp2 HAd K0d hk0b hkmb
  generalize (l[0]'hl0).1 = y0 at *
  generalize (l[l.length - 1]'(hmn)).1 = ym at *
  go_wp2_with fail
  refine HB0.out.mono ?_
  rintro e w3 ⟨rfl, rfl⟩
  go_wp2_with fail
  refine HBm.out.mono ?_
  rintro e w3 ⟨rfl, rfl⟩
  go_wp2_with fail
  refine (HCp.out w2 (kd.then k2)).mono ?_
  rintro e w3 ⟨rfl, k3⟩
  have b13 := k3.cell b12 (by simp)
  have HA3 := Lib.hid (HA2.out.keep k3)
  have HP3 := Lib.hid (HP.out.keep0 ((kd.then k2).then k3))
  have K3 := k3.heap K2 (by simp)
  have hz3 : lo ≤ w3.heap.size := by have := HA3.out.cv.size; omega
  have hzlt := heap_lt K3
  clear HB0 HBm HCp HKB d0 dm b12 HA2 K2 HP k2 k3 kd
  clear hmn
  go_wp2_with fail
  go_loopw [6, 58] (fun _ i wr => ∃ j : Nat, j ≤ l.length ∧ i = .int .i64 j ∧ Ap w wr lo X rx last k vs l j ∧ PutsAt wr lp (.slice (some ⟨gp, 0, none⟩) l.length cb) l ∧ wr.heap[z]? = some (.cells #[.int .i64 k, .slice (some ⟨gp, 0, none⟩) l.length cb] 185 (0, 0)) ∧ lo ≤ wr.heap.size) (fun _ i _ => l.length - (intOf i).toNat)
  case atStart => exact ⟨0, by omega, rfl, HA3.out, HP3.out, K3, hz3⟩
  case round =>
    obtain ⟨j, hj, rfl, hAr, hPr, Kr, hlr⟩ := hrel
    rename World => wr
    clear HA3 HP3 K3 hz3 b13
    by_cases hlt : j < l.length
    · obtain ⟨L, hver, hap, hkeys⟩ := hAr.ver
      obtain ⟨gp3, cap3, gd, cd, hv3, -, d0, d1, hbs, hbl, hbt⟩ := hPr.get j hlt
      cases hv3
      have hkj := HK.out _ (List.getElem_mem hlt)
      obtain ⟨v, xs, hgv, hgl, hown, hxs⟩ := hver.own hkj.1 hkj.2
      have HX := Lib.hid hxs
      have HO := Lib.hid hown
      have HV := Lib.hid hver
      have HAp := Lib.hid hap
      have HKs := Lib.hid hkeys
      have HGl := Lib.hid hgl
      have HPr := Lib.hid hPr
      have HAr := Lib.hid hAr
      have HBs := Lib.hid hbs
      have HBt := Lib.hid hbt
      have HKr := Lib.hid Kr
      have hlti : (j : Int) < l.length := by omega
      have kp : Chg [] wr (wr.alloc (.cells #[.int .i64 (l[j]'hlt).1, .slice (some ⟨gd, 0, none⟩) 40 cd] 50)) := Chg.alloc wr _
      have Kp := heap_new wr (.cells #[.int .i64 (l[j]'hlt).1, .slice (some ⟨gd, 0, none⟩) 40 cd] 50)
      have hlen : ((applyV vs k (l.take j)) (l[j]'hlt).1).length ≤ 1000000 := by
        have h1 := applyV_len vs k (l.take j) (l[j]'hlt).1
        have h2 := HS.out (l[j]'hlt).1
        simp only [List.length_take] at h1
        omega
      have HLn := Lib.hid hlen
      have HKj := Lib.hid hkj
      have HLr := Lib.hid hlr
      have HVl := Lib.hid (show ∀ c, ((applyV vs k (l.take j)) c).length < 1000000 from fun c => by
        have h1 := applyV_len vs k (l.take j) c
        have h2 := HS.out c
        simp only [List.length_take] at h1
        omega)
      have hd40 := Lib.hid hbl
      have HT := Lib.hid (applyV_take vs k l j hlt)
      clear hver hap hkeys hown hxs hgl hPr hAr hbs hbt hbl hkj hlen
      generalize hb' : (l[j]'hlt).1 = b at *
      generalize hd' : (l[j]'hlt).2 = d at *
      generalize applyV vs k (l.take j) = vj at *
      go_upto_block 2 with fail
      go_cut [6] from 60 to 83 (fun _ wx => Ap w wx lo X rx last k vs l (j + 1) ∧ PutsAt wx lp (.slice (some ⟨gp, 0, none⟩) l.length cb) l ∧ wx.heap[z]? = some (.cells #[.int .i64 k, .slice (some ⟨gp, 0, none⟩) l.length cb] 185 (0, 0)) ∧ lo ≤ wx.heap.size)
      case rest =>
        obtain ⟨q1, q2, q3, q4⟩ := hcut
        go_wp2_with fail
        exact ⟨⟨j + 1, by omega, by go_num, q1, q2, q3, q4⟩, by simp [intOf]; omega⟩
      go_wp2_with fail
      have hV5 := HV.out.keep kp
      have x1 : (wr.alloc (.cells #[.int .i64 b, .slice (some ⟨gd, 0, none⟩) 40 cd] 50)).cell? ⟨X, 1, none⟩ = some (.map (some rx)) := cell_is hV5.x 1 rfl
      have p0 : (wr.alloc (.cells #[.int .i64 b, .slice (some ⟨gd, 0, none⟩) 40 cd] 50)).cell? ⟨wr.heap.size, 0, none⟩ = some (.int .i64 b) := cell_is Kp 0 rfl
      have p1 : (wr.alloc (.cells #[.int .i64 b, .slice (some ⟨gd, 0, none⟩) 40 cd] 50)).cell? ⟨wr.heap.size, 1, none⟩ = some (.slice (some ⟨gd, 0, none⟩) 40 cd) := cell_is Kp 1 rfl
      have b0 : (wr.alloc (.cells #[.int .i64 b, .slice (some ⟨gd, 0, none⟩) 40 cd] 50)).cell? ⟨z, 0, none⟩ = some (.int .i64 k) := cell_is (kp.heap Kr (by simp)) 0 rfl
      have HLk := Lib.hid (fun wx (kx : Chg [] wr wx) => show (Instr.lookup 268 (.map (some rx)) (.int .i64 b) false).run Tryz.prog wx = .ok v wx from by
        have := lookup258g (HV.out.keep kx).m b
        rw [hgv] at this
        exact this)
      generalize hw5 : wr.alloc (.cells #[.int .i64 b, .slice (some ⟨gd, 0, none⟩) 40 cd] 50) = w5 at *
      have hzp : wr.heap.size ≤ w5.heap.size := kp.size
      have kd : Chg [] wr w5.drew := kp.drew
      have hXn : X ∉ v.ownBlock.toList := own_block_ne HO.out HV.out.x (by decide)
      have hrn : rx ∉ v.ownBlock.toList := fun hm => by
        obtain ⟨-, cs, hh⟩ := own_elem HO.out (show v.ownBlock = some rx by simpa using hm)
        exact map_cells HV.out.m hh rfl
      have hzn : wr.heap.size ∉ v.ownBlock.toList := own_block_ne (ownsRow_av HO.out kp (Av.nil _ _)) Kp (by decide)
      have HXn := Lib.hid hXn
      have HRn := Lib.hid hrn
      have HZn := Lib.hid hzn
      have HBn := Lib.hid (own_block_ne (ownsRow_av HO.out kp (Av.nil _ _)) (kp.heap HKr.out (by simp)) (by decide) : z ∉ v.ownBlock.toList)
      clear hXn hrn hzn
      have hl5 : lo ≤ w5.drew.heap.size := Nat.le_trans hlr hzp
      have hlk5 := HLk.out w5.drew kd
      have x1d : w5.drew.cell? ⟨X, 1, none⟩ = some (.map (some rx)) := x1
      have p0d : w5.drew.cell? ⟨wr.heap.size, 0, none⟩ = some (.int .i64 b) := p0
      have p1d : w5.drew.cell? ⟨wr.heap.size, 1, none⟩ = some (.slice (some ⟨gd, 0, none⟩) 40 cd) := p1
      have b0d : w5.drew.cell? ⟨z, 0, none⟩ = some (.int .i64 k) := b0
      clear hgv d0 d1 Kr
      generalize wr.heap.size = zp at *
      go_region_held3 (fun wx => wx.cell? ⟨X, 1, none⟩ = some (.map (some rx)) ∧ wx.cell? ⟨zp, 0, none⟩ = some (.int .i64 b) ∧ wx.cell? ⟨zp, 1, none⟩ = some (.slice (some ⟨gd, 0, none⟩) 40 cd) ∧ wx.cell? ⟨z, 0, none⟩ = some (.int .i64 k))
        (first
          | (exact ⟨x1d, p0d, p1d, b0d⟩)
          | (exact ⟨x16, p06, p16, b06⟩)
          | (exact ⟨x1y, p0y, p1y, b0y⟩)
          | (exact ⟨x17, p07, p17, b07⟩)
          | (exact ⟨k9.cell x17 (by simpa using cell_map m7 x17), k9.cell p07 (by simpa using cell_map m7 p07), k9.cell p17 (by simpa using cell_map m7 p17), k9.cell b07 (by simpa using cell_map m7 b07)⟩))
        (first
          | (go_simp; go_at_call 126; refine (clone_bt w5.drew (l := d) (m := 40) hd40.out (by decide) (by decide) (HBs.out.chg kd)).mono ?_; rintro e w6 ⟨g2, c2, rfl, k6, bs6, l6, bt6⟩; have k6r := kd.then k6; have x16 := k6.cell x1d (by simp); have p06 := k6.cell p0d (by simp); have p16 := k6.cell p1d (by simp); have b06 := k6.cell b0d (by simp); have hlk6 := HLk.out w6 k6r; have ky : Chg [] wr (w6.alloc (.cells #[.int .i64 k, .slice (some ⟨g2, 0, none⟩) 40 c2] 288)) := k6r.then_alloc _; have y0 := heap_new w6 (.cells #[.int .i64 k, .slice (some ⟨g2, 0, none⟩) 40 c2] 288); have kyy : Chg [] w6 (w6.alloc (.cells #[.int .i64 k, .slice (some ⟨g2, 0, none⟩) 40 c2] 288)) := Chg.alloc w6 _; have x1y := kyy.cell x16 (by simp); have p0y := kyy.cell p06 (by simp); have p1y := kyy.cell p16 (by simp); have b0y := kyy.cell b06 (by simp); have hlky := HLk.out _ ky; have oy := ownsRow_av HO.out ky (Av.nil _ _); have hby : lo ≤ (w6.alloc (.cells #[.int .i64 k, .slice (some ⟨g2, 0, none⟩) 40 c2] 288)).heap.size := (by have := k6.size; have := kyy.size; omega))
          | (refine step_append_ver rfl (.tmp 74) (.tmp 81) rfl lo _ _ xs rfl oy w6.heap.size 1 _ _ rfl (cell_is y0 0 rfl) (cell_is y0 1 rfl) ⟨rfl, rfl⟩ HLn.out hby ?_; intro g7 cp7 w7 o7 k7 i7; have x17 := k7.cell x1y HXn.out; have p07 := k7.cell p0y HZn.out; have p17 := k7.cell p1y HZn.out; have b07 := k7.cell b0y HBn.out; have m7 := (HV.out.keep ky).m.keep k7 HRn.out; obtain ⟨hmu, m8, k9⟩ := upd258 m7 b (.slice (some ⟨g7, 0, none⟩) ((vj b).length + 1) cp7)))
      all_goals
        obtain ⟨hvF, haF, hcF⟩ := VerG.added (d := d) (k := k) (HV.out.keep ky) HAp.out HKs.out HGl.out oy (fun i hi => by
          obtain ⟨e1, g', c', e2, e3, e4, e5⟩ := HX.out i hi
          exact ⟨e1, g', c', e2, e3.chg ky, e4, Bt.keep e5 ky (by simp)⟩) rfl o7 k7 i7 (bs6.chg kyy) hd40.out (Bt.keep bt6 kyy (by simp)) m8 k9 (fun c => by
          have := HVl.out c
          omega)
        have hkF : ∀ p ∈ putL L b (.slice (some ⟨g7, 0, none⟩) ((vj b).length + 1) cp7), 0 ≤ p.1 ∧ p.1 < 258 := putL_keys (P := fun x => 0 ≤ x ∧ x < 258) HKs.out HKj.out
        have hcC : Cv lo X rx wr (updW w7 268 rx b (.slice (some ⟨g7, 0, none⟩) ((vj b).length + 1) cp7)) := (Cv.of_chg ky).trans hcF
        have hA' := Lib.hid (Ap.mk (w := w) (last := last) (k := k) (vs := vs) (l := l) (j := j + 1) ⟨_, HT.out ▸ hvF, haF, hkF⟩ (HAr.out.cv.trans hcC))
        obtain ⟨TT, hT1, hT2⟩ := hcC
        have hXr := HV.out.x
        have hmr := HV.out.m
        have hP' := Lib.hid (HPr.out.keep hT1 (Cv.av hT2 hXr hmr (by decide) (by decide)) (fun g hg hm => by
          obtain ⟨-, cs, hh⟩ := HPr.out.block g hg
          exact (Cv.av (ts := [50]) hT2 hXr hmr (by decide) (by decide)).ne hh (by simp) hm))
        have hK' := Lib.hid (hT1.heap HKr.out ((Cv.av (ts := [185]) hT2 hXr hmr (by decide) (by decide)).ne HKr.out (by simp)))
        have hS' := Lib.hid (show lo ≤ (updW w7 268 rx b (.slice (some ⟨g7, 0, none⟩) ((vj b).length + 1) cp7)).heap.size from by
          have := k6.size
          have := kyy.size
          have := hcF.size
          omega)
        clear hvF haF hcF hkF hT1 hT2 hXr hmr hmu
        go_wp2_with fail
        go_meet
        exact ⟨hA'.out, hP'.out, hK'.out, hS'.out⟩
    · obtain rfl : j = l.length := by omega
      obtain ⟨L, hver, hap, hkeys⟩ := hAr.ver
      rw [List.take_length] at hver
      have b13 : wr.cell? ⟨z, 0, none⟩ = some (.int .i64 k) := cell_is Kr 0 rfl
      have x2 : wr.cell? ⟨X, 2, none⟩ = some (.int .i64 last) := cell_is hver.x 2 rfl
      have f2 := unfrozen hver.x 2
      have HV := Lib.hid (hver.timed k)
      have HC := Lib.hid (hAr.cv.trans ⟨[X], Chg.set wr X 2 (.int .i64 k), fun x hx _ => Or.inl (by simpa using hx)⟩)
      clear hver hAr hPr Kr
      go_wp2_with fail
      go_ret
      exact ⟨rfl, HC.out, L, HV.out, hap, hkeys⟩
end Go.Proofs.YtelakcjbknbehaaGreat
namespace Go.Proofs.YtelakcjbknbehaaGreat
open Go.RowKit Go.Lib

set_option maxRecDepth 100000 in
theorem hopen_gen (w : World) {B rb : Nat} {bl t : Int} (h : BookAt w B rb bl []) (h0 : 0 ≤ t) (h1 : t ≤ 1099511627776) (hb0 : 0 ≤ bl) (hb1 : bl ≤ 1000000) : Calls Tryz.prog 114 #[.pointer (some ⟨B, 0, none⟩), .int .i64 t] w fun e w' => e = .returned (.tuple #[.int .i64 (bl + 1), .int .i64 0]) ∧ Chg [B, rb] w w' ∧ BookAt w' B rb (bl + 1) [(bl + 1, .int .i64 t)] := by
  have n0 : decide (t < 0) = false := decide_eq_false (by omega)
  have n1 : decide (1099511627776 < t) = false := decide_eq_false (by omega)
  have hw : wrap64 (bl + 1) = bl + 1 := by unfold wrap64; omega
  clear h0 h1
  go_enter Tryz.func114, Tryz.ntmps114
  go_wp2_with fail
  refine (count_none w h).mono ?_
  rintro e w1 ⟨rfl, hc⟩
  have h1 := h.keep hc (by simp) (by simp)
  go_wp2_with fail
  refine (room_any w1 h1).mono ?_
  rintro e w2 ⟨rfl, rfl⟩
  have c1 : w1.cell? ⟨B, 1, none⟩ = some (.int .i64 bl) := cell_is h1.1 1 rfl
  have f1 := unfrozen h1.1 1
  have h2 : (w1.setCell ⟨B, 1, none⟩ (.int .i64 (bl + 1))).heap[B]? = some (.cells #[.int .i64 16, .int .i64 (bl + 1), .map (some rb)] 265 (0, 0)) := heap_set h1.1 1 _ rfl
  have hne : rb ≠ B := map_cells h1.2 h1.1
  have k2 := Chg.set w1 B 1 (.int .i64 (bl + 1))
  have m2 : MapAt (w1.setCell ⟨B, 1, none⟩ (.int .i64 (bl + 1))) rb [] := h1.2.keep k2 (by simpa using hne)
  have hc2 : Chg [B, rb] w (w1.setCell ⟨B, 1, none⟩ (.int .i64 (bl + 1))) := (hc.mono (T := [B, rb]) (fun x hx _ => by cases hx)).then (k2.mono (fun x hx _ => by simp at hx; simp [hx]))
  clear h1 h
  go_wp2_with fail
  generalize w1.setCell ⟨B, 1, none⟩ (.int .i64 (bl + 1)) = w2 at *
  have e1 : w2.cell? ⟨B, 1, none⟩ = some (.int .i64 (bl + 1)) := cell_is h2 1 rfl
  have e2 : w2.cell? ⟨B, 2, none⟩ = some (.map (some rb)) := cell_is h2 2 rfl
  have m3 : MapAt w2.drew rb [] := m2
  obtain ⟨w3, hmu, m4, k3, hs3⟩ := run_update_im (P := Tryz.prog) (mty := 263) (kt := 3) (et := 3) (by kernel_rfl) (by kernel_rfl) m3 (bl + 1) (.int .i64 t)
  go_region_held3 (fun wx => wx.cell? ⟨B, 1, none⟩ = some (.int .i64 (bl + 1)) ∧ wx.cell? ⟨B, 2, none⟩ = some (.map (some rb))) (first | (exact ⟨e1, e2⟩) | (exact ⟨k3.cell e1 (by simpa using hne.symm), k3.cell e2 (by simpa using hne.symm)⟩)) (fail)
  have g3 : w3.heap[B]? = some (.cells #[.int .i64 16, .int .i64 (bl + 1), .map (some rb)] 265 (0, 0)) := k3.heap (g := B) h2 (by simpa using hne.symm)
  have e3 : w3.cell? ⟨B, 1, none⟩ = some (.int .i64 (bl + 1)) := cell_is g3 1 rfl
  clear e1 e2 hmu
  go_wp2_with fail
  go_ret2
  exact ⟨rfl, hc2.then (Chg.trans (Chg.refl [B, rb] w2).drew k3 (fun x hx _ => by simp at hx; simp [hx])), g3, m4⟩
set_option maxRecDepth 100000 in
theorem vnew_gen (w : World) (X W : Nat) (t : Int) : Calls Tryz.prog 117 #[.pointer (some ⟨X, 0, none⟩), .pointer (some ⟨W, 0, none⟩), .int .i64 t] w fun e w' => ∃ Q V, e = .returned (.pointer (some ⟨Q, 0, none⟩)) ∧ Chg [] w w' ∧ ViewT w' Q X W V t (.slice none 0 0) ∧ SpansAt w' V (.slice none 0 0) ∧ w.heap.size ≤ Q ∧ w.heap.size ≤ V := by
  go_enter Tryz.func117, Tryz.ntmps117
  go_wp2_with fail
  refine (inew_any w).mono ?_
  rintro e w1 ⟨V, rfl, hc, hV, l⟩
  have hs := hc.size
  have h1 := heap_new w1 (.cells #[.pointer (some ⟨X, 0, none⟩), .pointer (some ⟨W, 0, none⟩), .int .i64 t, .pointer (some ⟨V, 0, none⟩), .slice none 0 0] 274)
  go_wp2_with fail
  go_ret
  exact ⟨w1.heap.size, V, rfl, hc.then_alloc _, h1, heap_old hV, hs, l⟩
/-- what a manager's blocks hold. -/
structure Gs where
  qv : Value
  out : Int
  num : Int
  bas : Int
  last : Int
  given : Int
  rd : Bool
  lo : Nat
  lastv : Int
  Lv : List (Int × Value)
  vs : Int → List (Int × List UInt8)
  bl : Int
  Lb : List (Int × Value)
  Lr : List (Int × Value)
/-- a manager with all its parts, in general. -/
structure Mx (w : World) (M X rx B rb r : Nat) (s : Gs) : Prop where
  mgr : MgrG w M X B r s.qv s.out s.num s.bas s.last s.given s.rd
  ver : VerG w s.lo X rx s.lastv s.Lv s.vs
  book : BookAt w B rb s.bl s.Lb
  map : MapAt w r s.Lr
  n1 : rx ≠ rb
  n2 : r ≠ rb
  n3 : r ≠ rx
theorem Mx.keep {w w' : World} {M X rx B rb r : Nat} {s : Gs} (h : Mx w M X rx B rb r s) (hc : Chg [] w w') : Mx w' M X rx B rb r s :=
  ⟨hc.heap h.mgr (by simp), h.ver.keep hc, h.book.keep hc (by simp) (by simp), h.map.keep hc (by simp), h.n1, h.n2, h.n3⟩
theorem Mx.cells {w : World} {M X rx B rb r : Nat} {s : Gs} (h : Mx w M X rx B rb r s) : w.cell? ⟨M, 0, none⟩ = some (.pointer (some ⟨X, 0, none⟩)) ∧ w.cell? ⟨M, 1, none⟩ = some (.pointer (some ⟨B, 0, none⟩)) ∧ w.cell? ⟨M, 2, none⟩ = some (.map (some r)) ∧ w.cell? ⟨M, 7, none⟩ = some (.int .i64 s.last) :=
  ⟨cell_is h.mgr 0 rfl, cell_is h.mgr 1 rfl, cell_is h.mgr 2 rfl, cell_is h.mgr 7 rfl⟩
/-- .. when its book alone has changed. -/
theorem Mx.opened {w w' : World} {M X rx B rb r : Nat} {s : Gs} {bl' : Int} {Lb' : List (Int × Value)} (h : Mx w M X rx B rb r s) (hc : Chg [B, rb] w w') (hb : BookAt w' B rb bl' Lb') : Mx w' M X rx B rb r { s with bl := bl', Lb := Lb' } := by
  have av : Av w [B, rb] [195, 270, 288, 5] := fun x hx cs t fr hh => by
    simp at hx
    rcases hx with rfl | rfl
    · rw [h.book.1] at hh; cases hh; simp
    · exact absurd rfl (map_cells h.book.2 hh)
  have nm : ∀ {x L}, MapAt w x L → x ≠ rb → x ∉ [B, rb] := fun hm hx => by simp; exact ⟨map_cells hm h.book.1, hx⟩
  exact ⟨hc.heap h.mgr (av.ne h.mgr (by simp)), h.ver.keepA hc (fun x hx cs t fr hh ht => av x hx cs t fr hh (List.mem_cons_of_mem _ ht)) (nm h.ver.m h.n1), hb, h.map.keep hc (nm h.map h.n2), h.n1, h.n2, h.n3⟩
/-- .. when its table of transactions alone has changed. -/
theorem Mx.table {w w' : World} {M X rx B rb r : Nat} {s : Gs} {Lr' : List (Int × Value)} (h : Mx w M X rx B rb r s) (hc : Chg [r] w w') (hb : MapAt w' r Lr') : Mx w' M X rx B rb r { s with Lr := Lr' } := by
  have av : ∀ ts, Av w [r] ts := fun ts => av_map h.map ts
  exact ⟨hc.heap h.mgr ((av [195]).ne h.mgr (by simp)), h.ver.keepA hc (av _) (by simpa using h.n3.symm), h.book.keep hc (by simpa using (map_cells h.map h.book.1).symm) (by simpa using h.n2.symm), hb, h.n1, h.n2, h.n3⟩
/-- what a manager's Begin leaves. -/
def BegR (w w' : World) (M X rx B rb r : Nat) (s : Gs) : Prop := ∃ T W rw Q V, Chg [B, rb, r] w w' ∧ Mx w' M X rx B rb r { s with bl := s.bl + 1, Lb := [(s.bl + 1, .int .i64 s.last)], Lr := putL s.Lr (s.bl + 1) (.pointer (some ⟨T, 0, none⟩)) } ∧ TxT w' T W Q s.last ∧ BufAt w' W rw [] ∧ ViewT w' Q X W V s.last (.slice none 0 0) ∧ SpansAt w' V (.slice none 0 0) ∧ rw ≠ r ∧ rw ≠ rb ∧ rw ≠ rx ∧ w.heap.size ≤ T ∧ w.heap.size ≤ W ∧ w.heap.size ≤ rw ∧ w.heap.size ≤ Q ∧ w.heap.size ≤ V
theorem tgone_x (w : World) {M X rx B rb r : Nat} {s : Gs} (h : Mx w M X rx B rb r s) : Calls Tryz.prog 113 #[.pointer (some ⟨M, 0, none⟩)] w fun e w' => e = .returned (.bool false) ∧ w = w' := by
  have c0 := h.cells.1
  clear h
  go_enter Tryz.func113, Tryz.ntmps113
  go_wp2_with fail
  go_ret
  exact ⟨rfl, rfl⟩
set_option maxRecDepth 100000 in
set_option maxHeartbeats 1000000 in
theorem tbegin_gen (w : World) {M X rx B rb r : Nat} {s : Gs} (h : Mx w M X rx B rb r s) (hLb : s.Lb = []) (h0 : 0 ≤ s.last) (h1 : s.last ≤ 1099511627776) (hb0 : 0 ≤ s.bl) (hb1 : s.bl ≤ 1000000) : Calls Tryz.prog 54 #[.pointer (some ⟨M, 0, none⟩)] w fun e w' =>
    e = .returned (.tuple #[.int .i64 (s.bl + 1), .int .i64 0]) ∧ BegR w w' M X rx B rb r s := by
  have hh := h.keep (Chg.refl [] w).drew
  have hbk := hh.book
  rw [hLb] at hbk
  have HO := Lib.hid (hopen_gen w.drew (t := s.last) hbk h0 h1 hb0 hb1)
  obtain ⟨t, ht⟩ : ∃ t, t = s.last := ⟨_, rfl⟩
  obtain ⟨bl, hbl⟩ : ∃ t, t = s.bl := ⟨_, rfl⟩
  obtain ⟨bn, hbn⟩ : ∃ t, t = bl + 1 := ⟨_, rfl⟩
  obtain ⟨c0, c1, c2, c7⟩ := h.cells
  rw [← hbl, ← hbn] at HO ⊢
  rw [← ht] at HO c7
  have HG := Lib.hid (tgone_x w h)
  have HT := Lib.hid ht
  have HBl := Lib.hid hbl
  have HBn := Lib.hid hbn
  have HM := Lib.hid h
  have HH := Lib.hid hh
  clear h0 h1 hb0 hb1 hLb hbk ht hbl hbn h hh
  go_enter Tryz.func54, Tryz.ntmps54
  go_wp2_with fail
  refine HG.out.mono ?_
  rintro e w1 ⟨rfl, rfl⟩
  go_wp2_with fail
  go_region_held3 (fun wx => wx.cell? ⟨M, 1, none⟩ = some (.pointer (some ⟨B, 0, none⟩)) ∧ wx.cell? ⟨M, 7, none⟩ = some (.int .i64 t)) (first | (exact ⟨c1, c7⟩) | (exact ⟨h2.cells.2.1, by rw [HT.out]; exact h2.cells.2.2.2⟩))
    (first
      | (go_at_call 114; refine HO.out.mono ?_; rintro e w2 ⟨rfl, k2, hb2⟩; have h2 := HH.out.opened k2 hb2))
  clear c0 c1 c2 c7 HO HG HH
  obtain ⟨c0, c1, c2, c7⟩ := h2.cells
  have c7' : w2.cell? ⟨M, 7, none⟩ = some (.int .i64 t) := by rw [HT.out]; exact c7
  clear c7
  have HB := Lib.hid (gblocks_any w2 h2.ver)
  have H2 := Lib.hid h2
  clear h2
  go_wp2_with fail
  refine HB.out.mono ?_
  rintro e w3 ⟨rfl, rfl⟩
  go_wp2_with fail
  refine (wnew_any w2).mono ?_
  rintro e w3 ⟨W, rw, rfl, k3, hW, l1, l2⟩
  have h3 := H2.out.keep k3
  clear c0 c1 c2 c7' HB
  obtain ⟨c0, c1, c2, c7⟩ := h3.cells
  have c7' : w3.cell? ⟨M, 7, none⟩ = some (.int .i64 t) := by rw [HT.out]; exact c7
  clear c7
  have H3 := Lib.hid h3
  have HW := Lib.hid hW
  clear h3 hW
  go_wp2_with fail
  go_region_held3 (fun wx => wx.cell? ⟨M, 0, none⟩ = some (.pointer (some ⟨X, 0, none⟩)) ∧ wx.cell? ⟨M, 1, none⟩ = some (.pointer (some ⟨B, 0, none⟩)) ∧ wx.cell? ⟨M, 2, none⟩ = some (.map (some r)) ∧ wx.cell? ⟨M, 7, none⟩ = some (.int .i64 t))
    (first
      | (exact ⟨c0, c1, c2, c7'⟩)
      | (rw [HT.out]; exact H4.out.cells)
      | (rw [HT.out]; exact (H4.out.keep (Chg.alloc (S := []) _ _)).cells)
      | (rw [HT.out]; exact ((H4.out.keep (Chg.alloc (S := []) w4 _)).table (upd178 (H4.out.keep (Chg.alloc (S := []) w4 _)).map _ _).2.2 (upd178 (H4.out.keep (Chg.alloc (S := []) w4 _)).map _ _).2.1).cells))
    (first
      | (go_at_call 117; refine (vnew_gen w3.drew X W t).mono ?_; rintro e w4 ⟨Q, V, rfl, k4, hQ, hV, l3, l4⟩; have H4 := Lib.hid ((H3.out.keep (Chg.refl [] w3).drew).keep k4); have hmu : ∀ o v, (Instr.mapUpdate 193 (.map (some r)) (.int .i64 bn) v).run Tryz.prog (w4.alloc o) = .ok () (updW (w4.alloc o) 193 r bn v) := fun o v => (upd178 (H4.out.map.keep (Chg.alloc (S := []) w4 o) (by simp)) bn v).1))
  have q1 := H2.out.map.lt
  have q2 := H2.out.book.2.lt
  have q3 := H2.out.ver.m.lt
  have h5 := H4.out.keep (Chg.alloc (S := []) w4 (.cells #[.int .i64 1, .int .i64 0, .int .i64 0, .int .i64 t, .pointer (some ⟨W, 0, none⟩), .pointer (some ⟨Q, 0, none⟩)] 203))
  have hT : TxT (w4.alloc (.cells #[.int .i64 1, .int .i64 0, .int .i64 0, .int .i64 t, .pointer (some ⟨W, 0, none⟩), .pointer (some ⟨Q, 0, none⟩)] 203)) w4.heap.size W Q t := heap_new w4 _
  have kx := Chg.alloc (S := []) w4 (.cells #[.int .i64 1, .int .i64 0, .int .i64 0, .int .i64 t, .pointer (some ⟨W, 0, none⟩), .pointer (some ⟨Q, 0, none⟩)] 203)
  have hW5 := HW.out.keep (((Chg.refl [] w3).drew.then k4).then kx) (by simp) (by simp)
  have hQ5 := kx.heap hQ (by simp)
  have hV5 := kx.heap hV (by simp)
  have kk := ((k2.mono (T := [B, rb, r]) (fun x hx _ => by simp at hx; rcases hx with rfl | rfl <;> simp)).then (k3.mono (fun x hx _ => by cases hx))).then ((((Chg.refl [] w3).drew.then k4).then kx).mono (fun x hx _ => by cases hx))
  have s4 := k4.size
  generalize w4.alloc (.cells #[.int .i64 1, .int .i64 0, .int .i64 0, .int .i64 t, .pointer (some ⟨W, 0, none⟩), .pointer (some ⟨Q, 0, none⟩)] 203) = w5 at *
  obtain ⟨-, mm, k6⟩ := upd178 h5.map bn (.pointer (some ⟨w4.heap.size, 0, none⟩))
  have h6 := h5.table k6 mm
  have t6 : TxT (updW w5 193 r bn (.pointer (some ⟨w4.heap.size, 0, none⟩))) w4.heap.size W Q t := k6.heap hT (by simpa using (map_cells h5.map hT).symm)
  have nr : rw ≠ r := by omega
  have b6 := hW5.keep k6 (by simpa using (map_cells h5.map hW5.1).symm) (by simpa using nr)
  have v6 := k6.heap hQ5 (by simpa using (map_cells h5.map hQ5).symm)
  have s6 := k6.heap hV5 (by simpa using (map_cells h5.map hV5).symm)
  have kf := kk.then (k6.mono (T := [B, rb, r]) (fun x hx _ => by simp at hx; simp [hx]))
  have hb1 : w.heap.size ≤ rw ∧ w.heap.size ≤ W := by have := k2.size; have h9 : w.drew.heap.size = w.heap.size := rfl; omega
  have hb2 : w.heap.size ≤ Q ∧ w.heap.size ≤ V := by have := k2.size; have := k3.size; have h9 : w.drew.heap.size = w.heap.size := rfl; have h8 : w3.drew.heap.size = w3.heap.size := rfl; omega
  have hb3 : w.heap.size ≤ w4.heap.size := by have := k2.size; have := k3.size; have h9 : w.drew.heap.size = w.heap.size := rfl; have h8 : w3.drew.heap.size = w3.heap.size := rfl; omega
  have n2 : rw ≠ rb := by omega
  have n3 : rw ≠ rx := by omega
  generalize w4.heap.size = T at *
  have HF := Lib.hid h6
  clear hmu q1 q2 q3 h5 h6 H4 H3 H2 HM kk hW5 hQ5 hV5 mm
  go_wp2_with fail
  go_ret2
  refine ⟨rfl, T, W, rw, Q, V, ?_⟩
  rw [← HBl.out, ← HBn.out, ← HT.out]
  have hF := HF.out
  rw [← HT.out] at hF
  exact ⟨(Chg.refl [B, rb, r] w).drew.then kf, hF, t6, b6, v6, s6, nr, n2, n3, hb3, hb1.2, hb1.1, hb2⟩
end Go.Proofs.YtelakcjbknbehaaGreat
namespace Go.Proofs.YtelakcjbknbehaaGreat
open Go.RowKit Go.Lib

theorem sortI_pairwise (l : List Int) : (sortI l).Pairwise (fun a b => a ≤ b) := by
  have h := List.pairwise_mergeSort (le := fun x y : Int => decide (x ≤ y)) (fun a b c h1 h2 => by simp at *; omega) (fun a b => by simp; omega) l
  exact h.imp (fun h => by simpa using h)
/-- a buffer's puts rise. -/
theorem rise_puts {L : List (Int × Value)} (D : Int → List UInt8) (hn : (L.map Prod.fst).Nodup) : Rise (putsL L D) := by
  intro i hi
  have hp := sortI_pairwise (L.map Prod.fst)
  have hd : (sortI (L.map Prod.fst)).Nodup := (sortI_perm _).nodup_iff.2 hn
  have hlen : (putsL L D).length = (sortI (L.map Prod.fst)).length := by simp [putsL]
  have h1 := (List.pairwise_iff_getElem.1 hp) i (i + 1) (by omega) (by omega) (by omega)
  have h2 := (List.pairwise_iff_getElem.1 hd) i (i + 1) (by omega) (by omega) (by omega)
  have e : ∀ j (hj : j < (putsL L D).length), ((putsL L D)[j]).1 = (sortI (L.map Prod.fst))[j]'(by omega) := fun j hj => by simp [putsL]
  rw [e, e]
  omega
theorem putsL_in {L : List (Int × Value)} (D : Int → List UInt8) (hk : ∀ x ∈ L, 0 ≤ x.1 ∧ x.1 < 258) : ∀ x ∈ putsL L D, 0 ≤ x.1 ∧ x.1 < 258 := by
  intro x hx
  obtain ⟨k, hk1, rfl⟩ := List.mem_map.1 hx
  obtain ⟨p, hp, e⟩ := List.mem_map.1 ((sortI_perm _).mem_iff.1 hk1)
  show 0 ≤ k ∧ k < 258
  rw [← e]
  exact hk p hp
/-- what of memory changes where a batch is done. -/
def Cd (lo M T rb X rx : Nat) (w w' : World) : Prop := ∃ S, Chg S w w' ∧ ∀ x ∈ S, x < w.heap.size → x = M ∨ x = T ∨ x = rb ∨ x = X ∨ x = rx ∨ (lo ≤ x ∧ ∃ cs, w.heap[x]? = some (.cells cs 288 (0, 0)))
theorem Cd.of_cv {lo M T rb X rx : Nat} {w w' : World} (h : Cv lo X rx w w') : Cd lo M T rb X rx w w' := by
  obtain ⟨S, h1, h2⟩ := h
  refine ⟨S, h1, fun x hx hl => ?_⟩
  rcases h2 x hx hl with e | e | e
  · exact Or.inr (Or.inr (Or.inr (Or.inl e)))
  · exact Or.inr (Or.inr (Or.inr (Or.inr (Or.inl e))))
  · exact Or.inr (Or.inr (Or.inr (Or.inr (Or.inr e))))
theorem Cd.of_chg {lo M T rb X rx : Nat} {S : List Nat} {w w' : World} (h : Chg S w w') (hS : ∀ x ∈ S, x = M ∨ x = T ∨ x = rb ∨ x = X ∨ x = rx) : Cd lo M T rb X rx w w' :=
  ⟨S, h, fun x hx _ => by rcases hS x hx with e | e | e | e | e <;> simp [e]⟩
theorem Cd.trans {lo M T rb X rx : Nat} {a b c : World} (h : Cd lo M T rb X rx a b) (k : Cd lo M T rb X rx b c) : Cd lo M T rb X rx a c := by
  obtain ⟨S, h1, h2⟩ := h
  obtain ⟨U, k1, k2⟩ := k
  refine ⟨S ++ U, (h1.mono (fun x hx _ => List.mem_append_left _ hx)).trans k1 (fun x hx _ => List.mem_append_right _ hx), fun x hx hlt => ?_⟩
  by_cases hT : x ∈ S
  · exact h2 x hT hlt
  · rcases List.mem_append.1 hx with h | h
    · exact absurd h hT
    · rcases k2 x h (Nat.lt_of_lt_of_le hlt h1.size) with e | e | e | e | e | ⟨e, cs, hh⟩
      · exact Or.inl e
      · exact Or.inr (Or.inl e)
      · exact Or.inr (Or.inr (Or.inl e))
      · exact Or.inr (Or.inr (Or.inr (Or.inl e)))
      · exact Or.inr (Or.inr (Or.inr (Or.inr (Or.inl e))))
      · exact Or.inr (Or.inr (Or.inr (Or.inr (Or.inr ⟨e, cs, by rw [← h1.block x hlt hT]; exact hh⟩))))
/-- one batch is taken in: the manager behind it, but for its queue. -/
structure Dn (w wr : World) (M X rx B rb r T W Q : Nat) (s : Gs) (k t h : Int) (l : List (Int × List UInt8)) : Prop where
  mx : ∃ Lv', Mx wr M X rx B rb r { s with last := k, lastv := k, Lv := Lv', vs := applyV s.vs k l, Lb := delL s.Lb h } ∧ ApL Lv' ∧ ∀ p ∈ Lv', 0 ≤ p.1 ∧ p.1 < 258
  cd : Cd s.lo M T rb X rx w wr
  tx : wr.heap[T]? = some (.cells #[.int .i64 3, .int .i64 k, .int .i64 0, .int .i64 t, .pointer (some ⟨W, 0, none⟩), .pointer (some ⟨Q, 0, none⟩)] 203 (0, 0))
/-- .. behind Apply alone. -/
theorem Mx.applied {w w' : World} {M X rx B rb r : Nat} {s : Gs} {k : Int} {Lv' : List (Int × Value)} {vs' : Int → List (Int × List UInt8)} (h : Mx w M X rx B rb r s) (hc : Cv s.lo X rx w w') (hv : VerG w' s.lo X rx k Lv' vs') : Mx w' M X rx B rb r { s with lastv := k, Lv := Lv', vs := vs' } := by
  obtain ⟨S, h1, h2⟩ := hc
  have av : ∀ ts, 270 ∉ ts → 288 ∉ ts → Av w S ts := fun ts a b => Cv.av h2 h.ver.x h.ver.m a b
  exact ⟨h1.heap h.mgr ((av [195] (by decide) (by decide)).ne h.mgr (by simp)), hv, ⟨h1.heap h.book.1 ((av [265] (by decide) (by decide)).ne h.book.1 (by simp)), h.book.2.keep h1 (Cv.map h2 h.ver.x h.book.2 h.n1.symm)⟩, h.map.keep h1 (Cv.map h2 h.ver.x h.map h.n3), h.n1, h.n2, h.n3⟩
/-- .. behind a store into the manager. -/
theorem Mx.set {w : World} {M X rx B rb r : Nat} {s s' : Gs} (h : Mx w M X rx B rb r s) (i : Nat) (v : Value) (hm : MgrG (w.setCell ⟨M, i, none⟩ v) M X B r s'.qv s'.out s'.num s'.bas s'.last s'.given s'.rd) (e1 : s'.lo = s.lo) (e2 : s'.lastv = s.lastv) (e3 : s'.Lv = s.Lv) (e4 : s'.vs = s.vs) (e5 : s'.bl = s.bl) (e6 : s'.Lb = s.Lb) (e7 : s'.Lr = s.Lr) : Mx (w.setCell ⟨M, i, none⟩ v) M X rx B rb r s' := by
  have kS := Chg.set w M i v
  refine ⟨hm, ?_, ?_, ?_, h.n1, h.n2, h.n3⟩
  · rw [e1, e2, e3, e4]
    exact h.ver.keepA kS (Av.row h.mgr (by decide)) (by simpa using map_cells h.ver.m h.mgr)
  · rw [e5, e6]
    exact ⟨kS.heap h.book.1 (by simpa using heap_ne h.book.1 h.mgr (by simp)), h.book.2.keep kS (by simpa using map_cells h.book.2 h.mgr)⟩
  · rw [e7]
    exact h.map.keep kS (by simpa using map_cells h.map h.mgr)
theorem ownsRow_low {w : World} {b b' e size n : Nat} {v : Value} {xs : List Value} (h : w.ownsRow b e size v n xs) (hb : b' ≤ b) : w.ownsRow b' e size v n xs := by
  obtain ⟨h1, h2⟩ := h
  refine ⟨h1, ?_⟩
  rcases h2 with h2 | ⟨g, cap, cur, e1, e2, e3⟩
  · exact Or.inl h2
  · exact Or.inr ⟨g, cap, cur, e1, Nat.le_trans hb e2, e3⟩
theorem TxOne.hp {w : World} {lo g c : Nat} {k : Int} {l : List (Int × List UInt8)} (h : TxOne w lo (.slice (some ⟨g, 0, none⟩) 1 c) k l) : ∃ cs, w.heap[g]? = some (.cells cs 185 (0, 0)) := by
  obtain ⟨g', c', cs, pv, e, -, -, h4, -⟩ := h
  cases e
  exact ⟨cs, h4⟩
set_option maxRecDepth 100000 in
set_option maxHeartbeats 8000000 in
theorem tdone_ok (w : World) {M X rx B rb r gq cq T W rw Q : Nat} {s : Gs} {hdl k t t0 : Int} {L : List (Int × Value)} {D : Int → List UInt8} (hx : Mx w M X rx B rb r s) (hqv : s.qv = .slice (some ⟨gq, 0, none⟩) 1 cq) (hcq : 1 ≤ cq) (hout : s.out = 1)
    (hq : w.cell? ⟨gq, 0, none⟩ = some (.int .i64 hdl)) (hg : getL s.Lr hdl = some (.pointer (some ⟨T, 0, none⟩))) (hT : TxW w T W Q k t) (hb : BufAt w W rw L) (hD : BufD w L D) (hk : ∀ x ∈ L, 0 ≤ x.1 ∧ x.1 < 258) (hl0 : 0 < L.length) (hl : L.length ≤ 16)
    (hap : ApL s.Lv) (hkeys : ∀ p ∈ s.Lv, 0 ≤ p.1 ∧ p.1 < 258) (hlo : s.lo ≤ w.heap.size) (hlast : s.lastv < k) (hk1 : k ≤ 1099511627776) (hs : ∀ c, (s.vs c).length + 16 < 1000000) (hLb : getL s.Lb hdl = some (.int .i64 t0)) (hn0 : 0 ≤ s.num) (hn1 : s.num ≤ 1000000000) :
    Calls Tryz.prog 63 #[.pointer (some ⟨M, 0, none⟩), .int .i64 0] w fun e w' => e = .returned (.int .i64 0) ∧ ∃ z, Dn w w' M X rx B rb r T W Q { s with qv := .slice (some ⟨z, 0, none⟩) 0 0, out := 0, num := s.num + 1 } k t hdl (putsL L D) ∧ w'.ownsRow w.heap.size 3 1 (.slice (some ⟨z, 0, none⟩) 0 0) 0 [] := by
  have hm := hx.mgr
  rw [hqv, hout] at hm
  have HG := Lib.hid (tgone_x w hx)
  have m4 : w.cell? ⟨M, 4, none⟩ = some (.int .i64 1) := cell_is hm 4 rfl
  have m3 : w.cell? ⟨M, 3, none⟩ = some (.slice (some ⟨gq, 0, none⟩) 1 cq) := cell_is hm 3 rfl
  have HWt := Lib.hid (waiting_one w.drew (k := k) (t := t) (show MgrG w.drew M X B r _ _ _ _ _ _ _ from hm) hq hx.map hg hT (hb.keep (Chg.refl [] w).drew (by simp) (by simp)) (hD.keep (Chg.refl [] w).drew) hk (by omega))
  have hnd : (L.map Prod.fst).Nodup := hb.2.nodup
  have hr := rise_puts D hnd
  have hin := putsL_in D hk
  have hlen : (putsL L D).length = L.length := putsL_length L D
  rw [← hlen] at hl0 hl
  have HX := Lib.hid hx
  have HT := Lib.hid hT
  have HGt := Lib.hid hg
  have HLb := Lib.hid hLb
  have HR := Lib.hid hr
  have HIn := Lib.hid hin
  have HAp := Lib.hid hap
  have HKs := Lib.hid hkeys
  have HS := Lib.hid hs
  have HN := Lib.hid (And.intro hn0 hn1)
  have HLo := Lib.hid hlo
  have HLa := Lib.hid hlast
  have HQv := Lib.hid hqv
  have HOt := Lib.hid hout
  have HL := Lib.hid (And.intro hl0 hl)
  clear hx hm hqv hout hg hT hb hD hk hnd hr hin hlen hap hkeys hlo hlast hs hLb hn0 hn1 hl0 hl
  generalize putsL L D = l at *
  have kd : Chg [] w w.drew := (Chg.refl [] w).drew
  have m4d : w.drew.cell? ⟨M, 4, none⟩ = some (.int .i64 1) := m4
  have hcqi : (1 : Int) ≤ cq := by omega
  go_enter Tryz.func63, Tryz.ntmps63
  go_wp2_with fail
  refine HG.out.mono ?_
  rintro e w1 ⟨rfl, rfl⟩
  go_wp2_with fail
  go_region_held3 (fun wx => wx.cell? ⟨M, 4, none⟩ = some (.int .i64 1))
    (first | (exact m4) | (exact m4d) | (exact k2'.cell m4d (by simp)))
    (first
      | (go_at_call 133; refine HWt.out.mono ?_; rintro e w2 ⟨v, rfl, k2', ht⟩; obtain ⟨g, c, pb, cb, rfl, hc1, hlg, hglt, g0, g1, hcb, hp⟩ := ht.open_; have hc1i : (1 : Int) ≤ c := (by omega); obtain ⟨cg, hgh⟩ := ht.hp))
  have k2 := kd.then k2'
  have m42 := k2.cell m4 (by simp)
  have m32 := k2.cell m3 (by simp)
  have q2 := k2.cell hq (by simp)
  have HP2 := Lib.hid hp
  clear k2' m4 m3 m4d hq HWt HG hp ht kd
  have kd2 : Chg [] w2 w2.drew := (Chg.refl [] w2).drew
  have m42d : w2.drew.cell? ⟨M, 4, none⟩ = some (.int .i64 1) := m42
  have m32d : w2.drew.cell? ⟨M, 3, none⟩ = some (.slice (some ⟨gq, 0, none⟩) 1 cq) := m32
  have q2d : w2.drew.cell? ⟨gq, 0, none⟩ = some (.int .i64 hdl) := q2
  go_wp2_with fail
  go_region_held3 (fun wx => wx.cell? ⟨M, 4, none⟩ = some (.int .i64 1) ∧ wx.cell? ⟨M, 3, none⟩ = some (.slice (some ⟨gq, 0, none⟩) 1 cq))
    (first | (exact ⟨m42, m32⟩) | (exact ⟨m42d, m32d⟩) | (exact ⟨k3'.cell m42d (by simp), k3'.cell m32d (by simp)⟩))
    (first
      | (go_at_call 138; refine (iclone_one w2.drew q2d).mono ?_; rintro e w3 ⟨gz, cz, rfl, k3', o3⟩))
  have k3 := k2.then (kd2.then k3')
  have hg3 := (kd2.then k3').heap hgh (by simp)
  have g03 := (kd2.then k3').cell g0 (by simp)
  have g13 := (kd2.then k3').cell g1 (by simp)
  have HP3 := Lib.hid (HP2.out.keep0 (kd2.then k3'))
  have HX3 := Lib.hid (HX.out.keep k3)
  have T3 := k3.heap HT.out (by simp)
  have z3 : w3.cell? ⟨gz, 0, none⟩ = some (.int .i64 hdl) := by
    rcases o3.2 with ⟨e, h0⟩ | ⟨g', cap', cur', e, -, hh, -, -, -, ht⟩
    · omega
    · cases e
      refine cell_is hh 0 ?_
      have := congrArg (fun l => l[0]?) ht
      simpa [List.getElem?_take] using this
  have hcz : (1 : Int) ≤ cz := by
    obtain ⟨pz, cz', e, hle⟩ := own_form o3
    cases e
    omega
  have hlo3 : s.lo ≤ w3.heap.size := Nat.le_trans HLo.out k3.size
  clear k3' m42 m32 q2 m42d m32d q2d HP2 g0 g1 o3 kd2 hgh
  go_wp2_with fail
  go_loopw [6, 7, 35] (fun _ _ i wr => (i = .int .i64 0 ∧ wr = w3) ∨ (i = .int .i64 1 ∧ Dn w wr M X rx B rb r T W Q s k t hdl l)) (fun _ _ i _ => 1 - (intOf i).toNat)
  case atStart => exact Or.inl ⟨rfl, rfl⟩
  case round =>
    rcases hrel with ⟨rfl, rfl⟩ | ⟨rfl, hDn⟩
    · rename World => wr
      have HLn := HL.out
      have HAy := Lib.hid (apply_ok wr.drew (HX3.out.keep (Chg.refl [] wr).drew).ver HAp.out HKs.out hlo3 (HP3.out.keep0 (Chg.refl [] wr).drew) HIn.out HR.out HLn.1 HLn.2 HLa.out hk1 HS.out)
      have m0 : wr.cell? ⟨M, 0, none⟩ = some (.pointer (some ⟨X, 0, none⟩)) := HX3.out.cells.1
      clear HLn
      go_wp2_with fail
      have m0d : wr.drew.cell? ⟨M, 0, none⟩ = some (.pointer (some ⟨X, 0, none⟩)) := m0
      have g0d : wr.drew.cell? ⟨g, 0, none⟩ = some (.int .i64 k) := g03
      have g1d : wr.drew.cell? ⟨g, 1, none⟩ = some (.slice pb l.length cb) := g13
      have HHg := Lib.hid (show wr.drew.heap[g]? = some (.cells cg 185 (0, 0)) from hg3)
      have HXd := Lib.hid (HX3.out.keep (Chg.refl [] wr).drew)
      go_region_held3 (fun wx => wx.cell? ⟨M, 0, none⟩ = some (.pointer (some ⟨X, 0, none⟩)) ∧ wx.cell? ⟨g, 0, none⟩ = some (.int .i64 k) ∧ wx.cell? ⟨g, 1, none⟩ = some (.slice pb l.length cb))
        (first | (exact ⟨m0, g03, g13⟩) | (exact ⟨m0d, g0d, g1d⟩) | (exact ⟨kU.cell m0d hU1, kU.cell g0d hU2, kU.cell g1d hU2⟩))
        (first
          | (go_at_call 139; refine HAy.out.mono ?_; rintro e w6 ⟨rfl, hcv, Lv', hv', hap', hk'⟩; obtain ⟨U, kU, hU⟩ := id hcv; have hU1 := (Cv.av (ts := [195]) hU HXd.out.ver.x HXd.out.ver.m (by decide) (by decide)).ne HXd.out.mgr (by simp); have hU2 := (Cv.av (ts := [185]) hU HXd.out.ver.x HXd.out.ver.m (by decide) (by decide)).ne HHg.out (by simp)))
      have hx6 := HXd.out.applied hcv hv'
      have T6 := kU.heap (show wr.drew.heap[T]? = _ from T3) ((Cv.av (ts := [203]) hU HXd.out.ver.x HXd.out.ver.m (by decide) (by decide)).ne (show wr.drew.heap[T]? = _ from T3) (by simp))
      have m76 : w6.cell? ⟨M, 7, none⟩ = some (.int .i64 s.last) := hx6.cells.2.2.2
      have f76 := unfrozen hx6.mgr 7
      have g06 := kU.cell g0d hU2
      have hMT : T ≠ M := heap_ne T6 hx6.mgr (by simp)
      have hx7 := hx6.set (s' := { s with last := k, lastv := k, Lv := Lv', vs := applyV s.vs k l }) 7 (.int .i64 k) (heap_set hx6.mgr 7 _ rfl) rfl rfl rfl rfl rfl rfl rfl
      have T7 := heap_set_ne T6 hMT 7 (.int .i64 k)
      have HE := Lib.hid (tend_ok _ hx7.mgr hx7.map HGt.out T7 hx7.book HLb.out)
      have HX7 := Lib.hid hx7
      have HT7 := Lib.hid T7
      have HC7 := Lib.hid (((Cd.of_chg (lo := s.lo) (M := M) (T := T) (rb := rb) (X := X) (rx := rx) (k3.then (Chg.refl [] wr).drew) (fun x hx => by cases hx)).trans (Cd.of_cv hcv)).trans (Cd.of_chg (Chg.set w6 M 7 (.int .i64 k)) (fun x hx => by simp at hx; simp [hx])))
      have HA7 := Lib.hid (And.intro hap' hk')
      clear hx6 hx7 T6 T7 hcv hv' hap' hk' kU hU hU1 hU2 m0 m0d g0d g1d hMT HHg HXd HAy g03 g13 T3 HX3 HP3
      go_wp2_with fail
      refine HE.out.mono ?_
      rintro e w8 ⟨rfl, k8, hb8, T8⟩
      have hDn : Dn w w8 M X rx B rb r T W Q s k t hdl l := by
        have h7 := HX7.out
        have av : ∀ ts, 203 ∉ ts → Av (w6.setCell ⟨M, 7, none⟩ (.int .i64 k)) [T, rb] ts := fun ts h1 x hx cs t' fr hh => by
          simp at hx
          rcases hx with rfl | rfl
          · rw [HT7.out] at hh; cases hh; exact h1
          · exact absurd rfl (map_cells h7.book.2 hh)
        have nT : ∀ {x L}, MapAt (w6.setCell ⟨M, 7, none⟩ (.int .i64 k)) x L → x ≠ rb → x ∉ [T, rb] := fun hm hx => by simp; exact ⟨map_cells hm HT7.out, hx⟩
        exact ⟨⟨Lv', ⟨k8.heap h7.mgr ((av [195] (by decide)).ne h7.mgr (by simp)), h7.ver.keepA k8 (av _ (by decide)) (nT h7.ver.m h7.n1), hb8, h7.map.keep k8 (nT h7.map h7.n2), h7.n1, h7.n2, h7.n3⟩, HA7.out⟩, HC7.out.trans (Cd.of_chg k8 (fun x hx => by simp at hx; rcases hx with e | e <;> simp [e])), T8⟩
      have HDn := Lib.hid hDn
      clear hDn k8 hb8 T8 HX7 HT7 HC7 HA7 HE
      go_wp2_with fail
      exact ⟨Or.inr ⟨rfl, HDn.out⟩, by decide⟩
    · obtain ⟨⟨Lv', hx, hap', hk'⟩, hcd, hT8⟩ := hDn
      rename World => wr
      have hm := hx.mgr
      dsimp only at hm
      rw [HQv.out, HOt.out] at hm
      obtain ⟨hn0, hn1⟩ := HN.out
      have m5 : wr.cell? ⟨M, 5, none⟩ = some (.int .i64 s.num) := cell_is hm 5 rfl
      have f5 := unfrozen hm 5
      have hm5 : MgrG (wr.setCell ⟨M, 5, none⟩ (.int .i64 (s.num + 1))) M X B r (.slice (some ⟨gq, 0, none⟩) 1 cq) 1 (s.num + 1) s.bas k s.given s.rd := heap_set hm 5 _ rfl
      have n3 : (wr.setCell ⟨M, 5, none⟩ (.int .i64 (s.num + 1))).cell? ⟨M, 3, none⟩ = some (.slice (some ⟨gq, 0, none⟩) 1 cq) := cell_is hm5 3 rfl
      have n4 : (wr.setCell ⟨M, 5, none⟩ (.int .i64 (s.num + 1))).cell? ⟨M, 4, none⟩ = some (.int .i64 1) := cell_is hm5 4 rfl
      have HM := Lib.hid hm
      have HM5 := Lib.hid hm5
      have HXf := Lib.hid hx
      have HA7 := Lib.hid (And.intro hap' hk')
      have HCd := Lib.hid hcd
      clear hm hm5 hx hap' hk' hcd g03 g13 HX3 HP3 T3
      go_upto_region 15 with fail
      have hx5 := HXf.out.set (s' := { s with last := k, lastv := k, Lv := Lv', vs := applyV s.vs k l, Lb := delL s.Lb hdl, num := s.num + 1 }) 5 (.int .i64 (s.num + 1)) (by rw [HQv.out, HOt.out]; exact HM5.out) rfl rfl rfl rfl rfl rfl rfl
      have HX5 := Lib.hid hx5
      have k5 := Chg.set wr M 5 (.int .i64 (s.num + 1))
      have hMT : T ≠ M := heap_ne hT8 HM.out (by simp)
      have T5 := heap_set_ne hT8 hMT 5 (.int .i64 (s.num + 1))
      clear hx5 m5 f5 hn0 hn1 hT8
      generalize wr.setCell ⟨M, 5, none⟩ (.int .i64 (s.num + 1)) = w5 at *
      have kd5 : Chg [] w5 w5.drew := (Chg.refl [] w5).drew
      have n3d : w5.drew.cell? ⟨M, 3, none⟩ = some (.slice (some ⟨gq, 0, none⟩) 1 cq) := n3
      have n4d : w5.drew.cell? ⟨M, 4, none⟩ = some (.int .i64 1) := n4
      have hcq2 : cq = 1 ∨ ¬ cq = 1 := by omega
      rcases hcq2 with hcq1 | hcq1
      · subst hcq1
        go_region_law
          (first
            | (go_simp; go_at_call 138; refine (iclone_zero w5.drew gq _ _).mono ?_; rintro e w6 ⟨zq, rfl, k6, o6⟩; have f36 := unfrozen ((kd5.then k6).heap HM5.out (by simp)) 3; have m36 : w6.cell? ⟨M, 3, none⟩ = some _ := cell_is ((kd5.then k6).heap HM5.out (by simp)) 3 rfl))
        all_goals
          have k56 := kd5.then k6
          have hx6 := HX5.out.keep k56
          have hm6 := k56.heap HM5.out (by simp)
          have T6 := k56.heap T5 (by simp)
          have f46 := unfrozen hm6 4
          have m46 : w6.cell? ⟨M, 4, none⟩ = some (.int .i64 1) := cell_is hm6 4 rfl
          have hmA : MgrG (w6.setCell ⟨M, 3, none⟩ (.slice (some ⟨zq, 0, none⟩) 0 0)) M X B r (.slice (some ⟨zq, 0, none⟩) 0 0) 1 (s.num + 1) s.bas k s.given s.rd := heap_set hm6 3 _ rfl
          have hmB : MgrG ((w6.setCell ⟨M, 3, none⟩ (.slice (some ⟨zq, 0, none⟩) 0 0)).setCell ⟨M, 4, none⟩ (.int .i64 0)) M X B r (.slice (some ⟨zq, 0, none⟩) 0 0) 0 (s.num + 1) s.bas k s.given s.rd := heap_set hmA 4 _ rfl
          have hxA := hx6.set (s' := { s with last := k, lastv := k, Lv := Lv', vs := applyV s.vs k l, Lb := delL s.Lb hdl, num := s.num + 1, qv := .slice (some ⟨zq, 0, none⟩) 0 0 }) 3 (.slice (some ⟨zq, 0, none⟩) 0 0) (by rw [HOt.out]; exact hmA) rfl rfl rfl rfl rfl rfl rfl
          have hxB := hxA.set (s' := { s with last := k, lastv := k, Lv := Lv', vs := applyV s.vs k l, Lb := delL s.Lb hdl, num := s.num + 1, qv := .slice (some ⟨zq, 0, none⟩) 0 0, out := 0 }) 4 (.int .i64 0) hmB rfl rfl rfl rfl rfl rfl rfl
          have TB := heap_set_ne (heap_set_ne T6 hMT 3 (.slice (some ⟨zq, 0, none⟩) 0 0)) hMT 4 (.int .i64 0)
          have kA := Chg.set w6 M 3 (.slice (some ⟨zq, 0, none⟩) 0 0)
          have kB := Chg.set (w6.setCell ⟨M, 3, none⟩ (.slice (some ⟨zq, 0, none⟩) 0 0)) M 4 (.int .i64 0)
          have oB := ownsRow_av (ownsRow_av o6 kA (Av.row hm6 (by decide))) kB (Av.row hmA (by decide))
          have hszd : w.heap.size ≤ w5.drew.heap.size := by
            obtain ⟨S, hS, -⟩ := HCd.out
            exact Nat.le_trans hS.size k5.size
          have one : ∀ {a b : World}, Chg [M] a b → Cd s.lo M T rb X rx a b := fun h => Cd.of_chg h (fun x hx => by simp at hx; simp [hx])
          have HFin := Lib.hid (And.intro (Dn.mk (s := { s with qv := .slice (some ⟨zq, 0, none⟩) 0 0, out := 0, num := s.num + 1 }) (w := w) (l := l) ⟨Lv', hxB, HA7.out⟩ ((((HCd.out.trans (one k5)).trans (Cd.of_chg k56 (fun x hx => by cases hx))).trans (one kA)).trans (one kB)) TB) (ownsRow_low oB hszd))
          clear hx6 hm6 T6 hmA hmB hxA hxB TB kA kB oB one k56 k6 o6 HX5 HM5 HM T5 hMT
          go_wp2_with fail
          go_ret
          exact ⟨rfl, zq, HFin.out⟩
      · go_region_law
          (first
            | (go_simp; go_at_call 138; refine (iclone_zero w5.drew gq _ _).mono ?_; rintro e w6 ⟨zq, rfl, k6, o6⟩; have f36 := unfrozen ((kd5.then k6).heap HM5.out (by simp)) 3; have m36 : w6.cell? ⟨M, 3, none⟩ = some _ := cell_is ((kd5.then k6).heap HM5.out (by simp)) 3 rfl))
        all_goals
          have k56 := kd5.then k6
          have hx6 := HX5.out.keep k56
          have hm6 := k56.heap HM5.out (by simp)
          have T6 := k56.heap T5 (by simp)
          have f46 := unfrozen hm6 4
          have m46 : w6.cell? ⟨M, 4, none⟩ = some (.int .i64 1) := cell_is hm6 4 rfl
          have hmA : MgrG (w6.setCell ⟨M, 3, none⟩ (.slice (some ⟨zq, 0, none⟩) 0 0)) M X B r (.slice (some ⟨zq, 0, none⟩) 0 0) 1 (s.num + 1) s.bas k s.given s.rd := heap_set hm6 3 _ rfl
          have hmB : MgrG ((w6.setCell ⟨M, 3, none⟩ (.slice (some ⟨zq, 0, none⟩) 0 0)).setCell ⟨M, 4, none⟩ (.int .i64 0)) M X B r (.slice (some ⟨zq, 0, none⟩) 0 0) 0 (s.num + 1) s.bas k s.given s.rd := heap_set hmA 4 _ rfl
          have hxA := hx6.set (s' := { s with last := k, lastv := k, Lv := Lv', vs := applyV s.vs k l, Lb := delL s.Lb hdl, num := s.num + 1, qv := .slice (some ⟨zq, 0, none⟩) 0 0 }) 3 (.slice (some ⟨zq, 0, none⟩) 0 0) (by rw [HOt.out]; exact hmA) rfl rfl rfl rfl rfl rfl rfl
          have hxB := hxA.set (s' := { s with last := k, lastv := k, Lv := Lv', vs := applyV s.vs k l, Lb := delL s.Lb hdl, num := s.num + 1, qv := .slice (some ⟨zq, 0, none⟩) 0 0, out := 0 }) 4 (.int .i64 0) hmB rfl rfl rfl rfl rfl rfl rfl
          have TB := heap_set_ne (heap_set_ne T6 hMT 3 (.slice (some ⟨zq, 0, none⟩) 0 0)) hMT 4 (.int .i64 0)
          have kA := Chg.set w6 M 3 (.slice (some ⟨zq, 0, none⟩) 0 0)
          have kB := Chg.set (w6.setCell ⟨M, 3, none⟩ (.slice (some ⟨zq, 0, none⟩) 0 0)) M 4 (.int .i64 0)
          have oB := ownsRow_av (ownsRow_av o6 kA (Av.row hm6 (by decide))) kB (Av.row hmA (by decide))
          have hszd : w.heap.size ≤ w5.drew.heap.size := by
            obtain ⟨S, hS, -⟩ := HCd.out
            exact Nat.le_trans hS.size k5.size
          have one : ∀ {a b : World}, Chg [M] a b → Cd s.lo M T rb X rx a b := fun h => Cd.of_chg h (fun x hx => by simp at hx; simp [hx])
          have HFin := Lib.hid (And.intro (Dn.mk (s := { s with qv := .slice (some ⟨zq, 0, none⟩) 0 0, out := 0, num := s.num + 1 }) (w := w) (l := l) ⟨Lv', hxB, HA7.out⟩ ((((HCd.out.trans (one k5)).trans (Cd.of_chg k56 (fun x hx => by cases hx))).trans (one kA)).trans (one kB)) TB) (ownsRow_low oB hszd))
          clear hx6 hm6 T6 hmA hmB hxA hxB TB kA kB oB one k56 k6 o6 HX5 HM5 HM T5 hMT
          go_wp2_with fail
          go_ret
          exact ⟨rfl, zq, HFin.out⟩
end Go.Proofs.YtelakcjbknbehaaGreat
namespace Go.Proofs.YtelakcjbknbehaaGreat
open Go.RowKit Go.Lib

/-- block S is two slots of the device N: the newer one, its text, how many texts there were. -/
def SlotG (w : World) (S N : Nat) (inn : Int) (tv : Value) (cnt : Nat) : Prop :=
  w.heap[S]? = some (.cells #[.pointer (some ⟨N, 0, none⟩), .int .i64 0, .int .i64 3, .int .i64 6, .int .i64 96, .int .i64 inn, tv, .int .i64 cnt, .bool false] 210 (0, 0))
/-- a text of the slots: none, or bytes. -/
def TextAt (w : World) (tv : Value) : Prop := tv = .slice none 0 0 ∨ ∃ g c m l, tv = .slice (some ⟨g, 0, none⟩) m c ∧ l.length = m ∧ 0 < m ∧ m ≤ 100000 ∧ Bs w (some ⟨g, 0, none⟩) l ∧ Bt w g
theorem TextAt.keep {w w' : World} {U : List Nat} {tv : Value} (h : TextAt w tv) (hc : Chg U w w') (hU : Av w U [5]) : TextAt w' tv := by
  rcases h with rfl | ⟨g, c, m, l, rfl, h1, h2, h3, h4, h5⟩
  · exact Or.inl rfl
  · have hn : g ∉ U := Bt.av h5 hU (by simp)
    exact Or.inr ⟨g, c, m, l, rfl, h1, h2, h3, h4.chgT hc hn, Bt.keep h5 hc hn⟩
/-- what Load hands back. -/
def LoadR (w : World) (cnt : Nat) (e : Ending) (w' : World) : Prop := ∃ u, e = .returned (.tuple #[u, .int .i64 cnt]) ∧ Chg [] w w'
set_option maxRecDepth 100000 in
theorem load_g (w : World) {S N : Nat} {inn : Int} {tv : Value} {cnt : Nat} (h : SlotG w S N inn tv cnt) (ht : TextAt w tv) : Calls Tryz.prog 81 #[.pointer (some ⟨S, 0, none⟩)] w (LoadR w cnt) := by
  rcases ht with rfl | ⟨g, c, m, l, rfl, hl, hm0, hm1, hb, -⟩
  · have c6 : w.cell? ⟨S, 6, none⟩ = some (.slice none 0 0) := cell_is h 6 rfl
    have c7 : w.cell? ⟨S, 7, none⟩ = some (.int .i64 cnt) := cell_is h 7 rfl
    clear h
    go_enter Tryz.func81, Tryz.ntmps81
    go_wp2_with fail
    have c6d : w.drew.cell? ⟨S, 6, none⟩ = some (.slice none 0 0) := c6
    have c7d : w.drew.cell? ⟨S, 7, none⟩ = some (.int .i64 cnt) := c7
    go_region_with (go_at_call 126; refine (clone_nil _).mono ?_; rintro e w1 ⟨rfl, rfl⟩)
    all_goals
      go_wp2_with fail
      go_ret2
      exact ⟨_, rfl, (Chg.refl _ w).drew⟩
  · have c6 : w.cell? ⟨S, 6, none⟩ = some (.slice (some ⟨g, 0, none⟩) m c) := cell_is h 6 rfl
    have c7 : w.cell? ⟨S, 7, none⟩ = some (.int .i64 cnt) := cell_is h 7 rfl
    have HB := Lib.hid hb
    have HL := Lib.hid (And.intro hl (And.intro hm0 hm1))
    clear h hb hl hm0 hm1
    go_enter Tryz.func81, Tryz.ntmps81
    go_wp2_with fail
    have c6d : w.drew.cell? ⟨S, 6, none⟩ = some (.slice (some ⟨g, 0, none⟩) m c) := c6
    have c7d : w.drew.cell? ⟨S, 7, none⟩ = some (.int .i64 cnt) := c7
    go_region_held3 (fun wx => wx.cell? ⟨S, 6, none⟩ = some (.slice (some ⟨g, 0, none⟩) m c) ∧ wx.cell? ⟨S, 7, none⟩ = some (.int .i64 cnt))
      (first | (exact ⟨c6, c7⟩) | (exact ⟨c6d, c7d⟩) | (exact ⟨k1.cell c6d (by simp), k1.cell c7d (by simp)⟩))
      (first
        | (go_at_call 126; refine (clone_bt w.drew HL.out.1 HL.out.2.1 HL.out.2.2 (HB.out.chg (Chg.refl [] w).drew)).mono ?_; rintro e w1 ⟨g', c', rfl, k1, -, -, -⟩))
    all_goals
      go_wp2_with fail
      go_ret2
      exact ⟨_, rfl, (Chg.refl [] w).drew.then k1⟩
theorem dead_g (w : World) {P N S M pos num : Nat} (h : StoreG w P N S M pos num) : Calls Tryz.prog 53 #[.pointer (some ⟨P, 0, none⟩)] w fun e w' => e = .returned (.bool false) ∧ w = w' := by
  have c0 : w.cell? ⟨P, 0, none⟩ = some (.pointer (some ⟨N, 0, none⟩)) := cell_is h 0 rfl
  have c9 : w.cell? ⟨P, 9, none⟩ = some (.bool false) := cell_is h 9 rfl
  clear h
  go_enter Tryz.func53, Tryz.ntmps53
  go_wp2_with fail
  go_ret
  exact ⟨rfl, rfl⟩
/-- all these blocks hold cells of these types. -/
def Tp (w : World) (U ts : List Nat) : Prop := ∀ x ∈ U, ∃ cs t, w.heap[x]? = some (.cells cs t (0, 0)) ∧ t ∈ ts
theorem Tp.av {w : World} {U ts ts' : List Nat} (h : Tp w U ts) (hd : ∀ t ∈ ts, t ∉ ts') : Av w U ts' := fun x hx cs t fr hh => by
  obtain ⟨cs2, t2, h2, h3⟩ := h x hx
  rw [h2] at hh
  cases hh
  exact hd _ h3
theorem Tp.map {w : World} {U ts : List Nat} {r : Nat} {L : List (Int × Value)} (h : Tp w U ts) (hm : MapAt w r L) : r ∉ U := fun hr => by
  obtain ⟨cs2, t2, h2, -⟩ := h r hr
  exact map_cells hm h2 rfl
theorem Mx.keepA {w w' : World} {U : List Nat} {M X rx B rb r : Nat} {s : Gs} (h : Mx w M X rx B rb r s) (hc : Chg U w w') (hU : Av w U [195, 270, 288, 5, 265]) (h1 : rx ∉ U) (h2 : rb ∉ U) (h3 : r ∉ U) : Mx w' M X rx B rb r s :=
  ⟨hc.heap h.mgr (hU.ne h.mgr (by simp)), h.ver.keepA hc (fun x hx cs t fr hh ht => hU x hx cs t fr hh (by simp at ht; rcases ht with rfl | rfl | rfl <;> simp)) h1, ⟨hc.heap h.book.1 (hU.ne h.book.1 (by simp)), h.book.2.keep hc h2⟩, h.map.keep hc h3, h.n1, h.n2, h.n3⟩
/-- .. when its own block alone has changed. -/
theorem Mx.chgM {w w' : World} {M X rx B rb r : Nat} {s s' : Gs} (h : Mx w M X rx B rb r s) (kS : Chg [M] w w') (hm : MgrG w' M X B r s'.qv s'.out s'.num s'.bas s'.last s'.given s'.rd) (e1 : s'.lo = s.lo) (e2 : s'.lastv = s.lastv) (e3 : s'.Lv = s.Lv) (e4 : s'.vs = s.vs) (e5 : s'.bl = s.bl) (e6 : s'.Lb = s.Lb) (e7 : s'.Lr = s.Lr) : Mx w' M X rx B rb r s' := by
  refine ⟨hm, ?_, ?_, ?_, h.n1, h.n2, h.n3⟩
  · rw [e1, e2, e3, e4]
    exact h.ver.keepA kS (Av.row h.mgr (by decide)) (by simpa using map_cells h.ver.m h.mgr)
  · rw [e5, e6]
    exact ⟨kS.heap h.book.1 (by simpa using heap_ne h.book.1 h.mgr (by simp)), h.book.2.keep kS (by simpa using map_cells h.book.2 h.mgr)⟩
  · rw [e7]
    exact h.map.keep kS (by simpa using map_cells h.map h.mgr)
/-- where a store's log, slots and device stand. -/
structure Gd where
  pos : Nat
  num : Nat
  inn : Int
  tv : Value
  cnt : Nat
  dlo : Nat
  ops : Int
  dv : Nat → Value
  gs : Nat → Nat
  zs : Nat → List (List UInt8)
/-- a store with all its parts, none of them below lw. -/
structure Sto (w : World) (lw : Nat) (d : Ids) (s : Gs) (g : Gd) : Prop where
  store : StoreG w d.P d.N d.S d.M g.pos g.num
  slot : SlotG w d.S d.N g.inn g.tv g.cnt
  text : TextAt w g.tv
  dev : DevG w g.dlo d.N d.A d.c g.ops d.Z g.dv g.gs g.zs
  mx : Mx w d.M d.X d.rx d.B d.rb d.r s
  ap : ApL s.Lv
  keys : ∀ p ∈ s.Lv, 0 ≤ p.1 ∧ p.1 < 258
  bnd : lw ≤ d.P ∧ lw ≤ d.N ∧ lw ≤ d.S ∧ lw ≤ d.M ∧ lw ≤ d.X ∧ lw ≤ d.rx ∧ lw ≤ d.B ∧ lw ≤ d.rb ∧ lw ≤ d.r ∧ lw ≤ s.lo ∧ lw ≤ g.dlo
  bndZ : ∀ z ∈ d.Z, lw ≤ z
  slo : s.lo ≤ w.heap.size
  dlo : g.dlo ≤ d.N
theorem Sto.keepA {w w' : World} {U : List Nat} {lw : Nat} {d : Ids} {s : Gs} {g : Gd} (h : Sto w lw d s g) (hc : Chg U w w') (hU : Av w U [102, 210, 128, 129, 132, 47, 5, 195, 270, 288, 265]) (h1 : d.rx ∉ U) (h2 : d.rb ∉ U) (h3 : d.r ∉ U) : Sto w' lw d s g := by
  have sub : ∀ ts : List Nat, (∀ t ∈ ts, t ∈ [102, 210, 128, 129, 132, 47, 5, 195, 270, 288, 265]) → Av w U ts := fun ts hts x hx cs t fr hh ht => hU x hx cs t fr hh (hts t ht)
  exact ⟨hc.heap h.store (hU.ne h.store (by simp)), hc.heap h.slot (hU.ne h.slot (by simp)), h.text.keep hc (sub _ (by decide)), h.dev.keep hc (sub _ (by decide)), h.mx.keepA hc (sub _ (by decide)) h1 h2 h3, h.ap, h.keys, h.bnd, h.bndZ, Nat.le_trans h.slo hc.size, h.dlo⟩
theorem Sto.keep {w w' : World} {lw : Nat} {d : Ids} {s : Gs} {g : Gd} (h : Sto w lw d s g) (hc : Chg [] w w') : Sto w' lw d s g := h.keepA hc (Av.nil _ _) (by simp) (by simp) (by simp)
/-- what of memory changes while a store works: nothing below lw. -/
def Cs (lw : Nat) (w w' : World) : Prop := ∃ U, Chg U w w' ∧ ∀ x ∈ U, x < w.heap.size → lw ≤ x ∧ ∀ cs t fr, w.heap[x]? = some (.cells cs t fr) → t ∈ [102, 195, 203, 270, 288, 128, 132, 47, 265, 210]
theorem Cs.of_chg {lw : Nat} {w w' : World} (h : Chg [] w w') : Cs lw w w' := ⟨[], h, fun x hx => by cases hx⟩
theorem Cs.trans {lw : Nat} {a b c : World} (h : Cs lw a b) (k : Cs lw b c) : Cs lw a c := by
  obtain ⟨S, h1, h2⟩ := h
  obtain ⟨U, k1, k2⟩ := k
  refine ⟨S ++ U, (h1.mono (fun x hx _ => List.mem_append_left _ hx)).trans k1 (fun x hx _ => List.mem_append_right _ hx), fun x hx hlt => ?_⟩
  by_cases hT : x ∈ S
  · exact h2 x hT hlt
  · rcases List.mem_append.1 hx with h | h
    · exact absurd h hT
    · obtain ⟨e1, e2⟩ := k2 x h (Nat.lt_of_lt_of_le hlt h1.size)
      exact ⟨e1, fun cs t fr hh => e2 cs t fr (by rw [h1.block x hlt hT]; exact hh)⟩
theorem Cs.size {lw : Nat} {w w' : World} (h : Cs lw w w') : w.heap.size ≤ w'.heap.size := by obtain ⟨U, h1, -⟩ := h; exact h1.size
theorem Cs.heap {lw : Nat} {w w' : World} (h : Cs lw w w') {x : Nat} {cs : Array Value} {t : TypeId} {fr : Nat × Nat} (hh : w.heap[x]? = some (.cells cs t fr)) (ht : t ∉ [102, 195, 203, 270, 288, 128, 132, 47, 265, 210]) : w'.heap[x]? = some (.cells cs t fr) := by
  obtain ⟨U, k1, k2⟩ := h
  exact k1.heap hh (fun hm => ht ((k2 x hm (heap_lt hh)).2 cs t fr hh))
theorem Cs.of_tp {lw : Nat} {w w' : World} {U ts : List Nat} (h : Chg U w w') (ht : Tp w U ts) (hts : ∀ t ∈ ts, t ∈ [102, 195, 203, 270, 288, 128, 132, 47, 265, 210]) (hl : ∀ x ∈ U, lw ≤ x) : Cs lw w w' :=
  ⟨U, h, fun x hx _ => ⟨hl x hx, fun cs t fr hh => by
    obtain ⟨cs2, t2, h2, h3⟩ := ht x hx
    rw [h2] at hh
    cases hh
    exact hts _ h3⟩⟩
end Go.Proofs.YtelakcjbknbehaaGreat
namespace Go.Proofs.YtelakcjbknbehaaGreat
open Go.RowKit Go.Lib

theorem BufD.keepA {w w' : World} {U : List Nat} {L : List (Int × Value)} {D : Int → List UInt8} (h : BufD w L D) (hc : Chg U w w') (hU : Av w U [5]) : BufD w' L D := fun k v hv => by
  obtain ⟨g, c, h1, h2, h3, h4⟩ := h k v hv
  have hn : g ∉ U := Bt.av h4 hU (by simp)
  exact ⟨g, c, h1, h2.chgT hc hn, h3, Bt.keep h4 hc hn⟩
theorem Cd.av {lo M T rb X rx : Nat} {w : World} {S ts : List Nat} {csM csT csX : Array Value} {L1 L2 : List (Int × Value)} (hS : ∀ x ∈ S, x < w.heap.size → x = M ∨ x = T ∨ x = rb ∨ x = X ∨ x = rx ∨ (lo ≤ x ∧ ∃ cs, w.heap[x]? = some (.cells cs 288 (0, 0))))
    (hM : w.heap[M]? = some (.cells csM 195 (0, 0))) (hT : w.heap[T]? = some (.cells csT 203 (0, 0))) (hX : w.heap[X]? = some (.cells csX 270 (0, 0))) (h1 : MapAt w rb L1) (h2 : MapAt w rx L2) (h : ∀ t ∈ ts, t ∉ [195, 203, 270, 288]) : Av w S ts := by
  intro x hx cs t fr hh ht
  have hn := h t ht
  rcases hS x hx (heap_lt hh) with rfl | rfl | rfl | rfl | rfl | ⟨-, cs2, h3⟩
  · rw [hM] at hh; cases hh; exact hn (by simp)
  · rw [hT] at hh; cases hh; exact hn (by simp)
  · exact map_cells h1 hh rfl
  · rw [hX] at hh; cases hh; exact hn (by simp)
  · exact map_cells h2 hh rfl
  · rw [h3] at hh; cases hh; exact hn (by simp)
theorem Cs.of_cd {lw lo M T rb X rx : Nat} {w w' : World} {csM csT csX : Array Value} {L1 L2 : List (Int × Value)} (h : Cd lo M T rb X rx w w')
    (hM : w.heap[M]? = some (.cells csM 195 (0, 0))) (hT : w.heap[T]? = some (.cells csT 203 (0, 0))) (hX : w.heap[X]? = some (.cells csX 270 (0, 0))) (h1 : MapAt w rb L1) (h2 : MapAt w rx L2) (hb : lw ≤ lo ∧ lw ≤ M ∧ lw ≤ T ∧ lw ≤ rb ∧ lw ≤ X ∧ lw ≤ rx) : Cs lw w w' := by
  obtain ⟨S, k1, k2⟩ := h
  refine ⟨S, k1, fun x hx hlt => ?_⟩
  obtain ⟨b1, b2, b3, b4, b5, b6⟩ := hb
  rcases k2 x hx hlt with rfl | rfl | rfl | rfl | rfl | ⟨hl, cs2, h3⟩
  · exact ⟨b2, fun cs t fr hh => by rw [hM] at hh; cases hh; simp⟩
  · exact ⟨b3, fun cs t fr hh => by rw [hT] at hh; cases hh; simp⟩
  · exact ⟨b4, fun cs t fr hh => absurd rfl (map_cells h1 hh)⟩
  · exact ⟨b5, fun cs t fr hh => by rw [hX] at hh; cases hh; simp⟩
  · exact ⟨b6, fun cs t fr hh => absurd rfl (map_cells h2 hh)⟩
  · exact ⟨by omega, fun cs t fr hh => by rw [h3] at hh; cases hh; simp⟩
/-- the blocks that a write of a batch changes. -/
theorem Sto.wtp {w : World} {lw : Nat} {d : Ids} {s : Gs} {g : Gd} (h : Sto w lw d s g) : Tp w (d.P :: d.N :: d.Z ++ (g.dv 6).ownBlock.toList) [102, 128, 132, 47] ∧ ∀ x ∈ d.P :: d.N :: d.Z ++ (g.dv 6).ownBlock.toList, lw ≤ x := by
  have hb := h.bnd
  refine ⟨fun x hx => ?_, fun x hx => ?_⟩
  · simp only [List.cons_append, List.mem_cons, List.mem_append] at hx
    rcases hx with rfl | rfl | hx | hx
    · exact ⟨_, _, h.store, by simp⟩
    · exact ⟨_, _, h.dev.hdr, by simp⟩
    · obtain ⟨i, hi, rfl⟩ := List.getElem_of_mem hx
      exact ⟨_, _, h.dev.zone i hi, by simp⟩
    · obtain ⟨cs, hh⟩ := (h.dev.rows 6 (by omega)).block x (by simpa using hx)
      exact ⟨_, _, hh, by simp⟩
  · simp only [List.cons_append, List.mem_cons, List.mem_append] at hx
    rcases hx with rfl | rfl | hx | hx
    · omega
    · omega
    · exact h.bndZ x hx
    · obtain ⟨xs, ho, -⟩ := h.dev.rows 6 (by omega)
      have := (own_elem ho (show (g.dv 6).ownBlock = some x by simpa using hx)).1
      omega
/-- what a transaction that waits holds beside the store. -/
structure Wtx (w : World) (d : Ids) (s : Gs) (gq cq : Nat) (hdl : Int) (k : Nat) (t t0 : Int) (L : List (Int × Value)) (D : Int → List UInt8) : Prop where
  qv : s.qv = .slice (some ⟨gq, 0, none⟩) 1 cq
  cq : 1 ≤ cq
  q : ∃ cs, w.heap[gq]? = some (.cells cs 3 (0, 0)) ∧ cs[0]? = some (.int .i64 hdl)
  tab : getL s.Lr hdl = some (.pointer (some ⟨d.T, 0, none⟩))
  tx : TxW w d.T d.W d.Q k t
  buf : BufAt w d.W d.rw L
  bd : BufD w L D
  bk : ∀ x ∈ L, 0 ≤ x.1 ∧ x.1 < 258
  len0 : 0 < L.length
  len : L.length ≤ 16
  book : getL s.Lb hdl = some (.int .i64 t0)
theorem Wtx.keepA {w w' : World} {U : List Nat} {d : Ids} {s : Gs} {gq cq : Nat} {hdl : Int} {k : Nat} {t t0 : Int} {L : List (Int × Value)} {D : Int → List UInt8} (h : Wtx w d s gq cq hdl k t t0 L D) (hc : Chg U w w') (hU : Av w U [3, 203, 267, 5]) (hr : d.rw ∉ U) : Wtx w' d s gq cq hdl k t t0 L D := by
  obtain ⟨cs, q1, q2⟩ := h.q
  exact ⟨h.qv, h.cq, ⟨cs, hc.heap q1 (hU.ne q1 (by simp)), q2⟩, h.tab, hc.heap h.tx (hU.ne h.tx (by simp)), h.buf.keep hc (hU.ne h.buf.1 (by simp)) hr, h.bd.keepA hc (fun x hx cs t fr hh ht => hU x hx cs t fr hh (by simp at ht; simp [ht])), h.bk, h.len0, h.len, h.book⟩
theorem Wtx.keep {w w' : World} {d : Ids} {s : Gs} {gq cq : Nat} {hdl : Int} {k : Nat} {t t0 : Int} {L : List (Int × Value)} {D : Int → List UInt8} (h : Wtx w d s gq cq hdl k t t0 L D) (hc : Chg [] w w') : Wtx w' d s gq cq hdl k t t0 L D := h.keepA hc (Av.nil _ _) (by simp)
/-- the manager behind a batch. -/
def doneS (s : Gs) (z : Nat) (k : Nat) (hdl : Int) (Lv' : List (Int × Value)) (l : List (Int × List UInt8)) : Gs :=
  { s with qv := .slice (some ⟨z, 0, none⟩) 0 0, out := 0, num := s.num + 1, last := k, lastv := k, Lv := Lv', vs := applyV s.vs k l, Lb := delL s.Lb hdl }
end Go.Proofs.YtelakcjbknbehaaGreat
namespace Go.Proofs.YtelakcjbknbehaaGreat
open Go.RowKit Go.Lib

theorem getL_of_mem {L : List (Int × Value)} (hn : (L.map Prod.fst).Nodup) {p : Int × Value} (hp : p ∈ L) : getL L p.1 = some p.2 := by
  induction L with
  | nil => cases hp
  | cons a l ih =>
    rw [List.map_cons, List.nodup_cons] at hn
    simp only [getL]
    rcases List.mem_cons.1 hp with rfl | h
    · rw [if_pos rfl]
    · rw [if_neg (fun e => hn.1 (by rw [← e]; exact List.mem_map.2 ⟨p, h, rfl⟩))]
      exact ih hn.2 h
/-- a map's entries, one by one. -/
theorem MapAt.entries {w : World} {r : Nat} {L : List (Int × Value)} (h : MapAt w r L) : ∃ es clock, w.heap[r]? = some (.map es clock) ∧ MapKept.Stamped es clock ∧ ∀ e ∈ es.toList, ∃ k, e.key = .int .i64 k ∧ (k, e.val) ∈ L ∧ getL L k = some e.val := by
  have hn := h.nodup
  obtain ⟨es, clock, hb, hI, hS⟩ := h
  refine ⟨es, clock, hb, hS, fun e he => ?_⟩
  have h1 : (e.key, e.val) ∈ es.toList.map (fun e => (e.key, e.val)) := List.mem_map.2 ⟨e, he, rfl⟩
  rw [hI] at h1
  obtain ⟨p, hp, e1⟩ := List.mem_map.1 h1
  have e2 : e.key = .int .i64 p.1 := (congrArg Prod.fst e1).symm
  have e3 : e.val = p.2 := (congrArg Prod.snd e1).symm
  exact ⟨p.1, e2, by rw [e3]; exact hp, by rw [e3]; exact getL_of_mem hn hp⟩
/-- all versions are no newer than a time; the map's keys are blocks. -/
def OldV (L : List (Int × Value)) (vs : Int → List (Int × List UInt8)) (t : Int) : Prop := (∀ p ∈ L, 0 ≤ p.1 ∧ p.1 < 258) ∧ ∀ b, ∀ x ∈ vs b, x.1 ≤ t
set_option maxRecDepth 100000 in
set_option maxHeartbeats 1000000 in
theorem written_old (w : World) {lo X rx : Nat} {last : Int} {L : List (Int × Value)} {vs : Int → List (Int × List UInt8)} (h : VerG w lo X rx last L vs) (b n t : Int) (ho : OldV L vs t) : Calls Tryz.prog 227 #[.pointer (some ⟨X, 0, none⟩), .agg #[.int .i64 b, .int .i64 n], .int .i64 t] w fun e w' => e = .returned (.bool false) ∧ Chg [] w w' := by
  have kA : Chg [] w (w.alloc (.cells #[.int .i64 b, .int .i64 n] 79)) := Chg.alloc w _
  have A0 := heap_new w (.cells #[.int .i64 b, .int .i64 n] 79)
  have h2 := h.keep kA
  have x0 : (w.alloc (.cells #[.int .i64 b, .int .i64 n] 79)).cell? ⟨X, 0, none⟩ = some (.int .i64 258) := cell_is h2.x 0 rfl
  have x1 : (w.alloc (.cells #[.int .i64 b, .int .i64 n] 79)).cell? ⟨X, 1, none⟩ = some (.map (some rx)) := cell_is h2.x 1 rfl
  have a0 : (w.alloc (.cells #[.int .i64 b, .int .i64 n] 79)).cell? ⟨w.heap.size, 0, none⟩ = some (.int .i64 b) := cell_is A0 0 rfl
  have a1 : (w.alloc (.cells #[.int .i64 b, .int .i64 n] 79)).cell? ⟨w.heap.size, 1, none⟩ = some (.int .i64 n) := cell_is A0 1 rfl
  have HG := Lib.hid (xgone_any _ x0)
  have H2 := Lib.hid h2
  clear h h2 A0
  go_enter Tryz.func227, Tryz.ntmps227
  go_upto_region 1 with fail
  generalize w.alloc (.cells #[.int .i64 b, .int .i64 n] 79) = w1 at *
  generalize hz : w.heap.size = z at *
  go_cut [38] from 7 (fun v wx => (∃ r : Bool, v = .bool r) ∧ wx = w1)
  case first =>
    go_wp2_with fail
    refine HG.out.mono ?_
    rintro e w2 ⟨rfl, rfl⟩
    go_wp2_with fail
    all_goals
      go_meet
      exact ⟨⟨_, rfl⟩, rfl⟩
  case rest =>
    obtain ⟨⟨r, rfl⟩, rfl⟩ := hcut
    rename World => wd
    cases r
    · obtain ⟨es, clock, hm, hst, hen⟩ := H2.out.m.entries
      have hr1 := run_range_map (P := Tryz.prog) wd 268 3 286 rx es clock (by kernel_rfl) hm
      have HE := Lib.hid hen
      have HO := Lib.hid ho
      clear hen ho
      have kR : Chg [] wd (wd.alloc (.mapIter (some rx) clock #[] clock)) := Chg.alloc wd _
      have R0 := heap_new wd (.mapIter (some rx) clock #[] clock)
      go_wp2_with fail
      generalize hzR : wd.heap.size = R at *
      generalize wd.alloc (.mapIter (some rx) clock #[] clock) = w3 at *
      go_loopw [7, 8] (fun _ _ wr => ∃ seen, wr.heap[R]? = some (.mapIter (some rx) clock seen clock) ∧ Chg [] wd wr) (fun _ _ wr => (leftOf es (wr.iterSeen R)).size)
      case atStart => exact ⟨#[], R0, kR⟩
      case round =>
        obtain ⟨seen, hR, kr⟩ := hrel
        have hb1 : wr.heap[rx]? = some (.map es clock) := kr.heap hm (by simp)
        rcases run_next_at (P := Tryz.prog) wr 0 R rx clock clock seen es clock hR hb1 hst.1 (Nat.le_refl _) with ⟨h0, hrun⟩ | ⟨e, he, w2, hal2, hrun⟩
        · have hnx : ∀ ty, (Instr.next (.pointer (some ⟨R, 0, none⟩)) false ty).run Tryz.prog wr = _ := fun _ => hrun
          have kF : Chg [] w wr := kA.then kr
          go_wp2_with fail
          go_ret
          exact ⟨rfl, kF⟩
        · obtain ⟨k, hk, hL, hget⟩ := HE.out e (mem_left he).1
          obtain ⟨hk0, hk1⟩ := HO.out.1 _ hL
          have hk0' : 0 ≤ k := hk0
          have hk1' : k < 258 := hk1
          obtain ⟨v, hv, hrow, hne⟩ : ∃ v, e.val = v ∧ VRow wd lo v (vs k) ∧ vs k ≠ [] := by
            rcases H2.out.row k hk0' hk1' with ⟨e1, _⟩ | ⟨v, e1, e2, e3⟩
            · rw [hget] at e1; cases e1
            · rw [hget] at e1; cases e1; exact ⟨_, rfl, e2, e3⟩
          have h5 : ∃ w5, w5 = Go.ChangeMaps.setBlock w2 R (.mapIter (some rx) clock (seen.push e.born) clock) ∧ w5.heap[R]? = some (.mapIter (some rx) clock (seen.push e.born) clock) ∧ Chg [] wd w5 := by
            refine ⟨_, rfl, ?_, ?_⟩
            · have hl : R < w2.heap.size := by rcases hal2 with rfl | rfl <;> exact heap_lt hR
              simp [Go.ChangeMaps.setBlock, hl]
            · have kk : Chg [] wd w2 := by rcases hal2 with e | e <;> rw [e]; exact kr; exact kr.drew
              refine kk.trans (T := [R]) ⟨rfl, rfl, rfl, by simp [Go.ChangeMaps.setBlock], fun q _ hq => ?_⟩ (fun x hx hlt => by rw [List.mem_singleton] at hx; omega)
              have : R ≠ q := by intro e; exact hq (by rw [e]; simp)
              simp [Go.ChangeMaps.setBlock, this]
          obtain ⟨w5, e5, hR5, k5⟩ := h5
          rw [← e5] at hrun
          have hen := run_entry_at (P := Tryz.prog) w5 R rx clock seen es clock e hR5 (k5.heap hm (by simp)) (mem_left he).1 hst.2.1
          have HM := Lib.hid (left_shrinks es seen e he)
          obtain ⟨j, hj⟩ : ∃ j, (vs k).length = j + 1 := ⟨(vs k).length - 1, by have := List.length_pos_iff.2 hne; omega⟩
          obtain ⟨g, cap, gd, cd, rfl, hcap, d0, -, -, -, -⟩ := hrow.get j (by omega)
          have hsm := H2.out.small k
          have hold : ((vs k)[j]'(by omega)).1 ≤ t := HO.out.2 k _ (List.getElem_mem _)
          have d5 := k5.cell d0 (by simp)
          have y0 := k5.cell a0 (by simp)
          have y1 := k5.cell a1 (by simp)
          rw [hk, hv, hj] at hrun hen
          rw [hj] at hcap
          have kz : Chg [] w w5 := kA.then k5
          have hnx : ∀ ty, (Instr.next (.pointer (some ⟨R, 0, none⟩)) false ty).run Tryz.prog wr = _ := fun _ => hrun
          clear d0 hrow hL hget hk hv hne hal2 kr hb1 hrun e5
          generalize ((vs k)[j]'(by omega)).1 = tl at *
          go_upto_region 6 with fail
          have ej : wrap64 (((j + 1 : Nat) : Int) - 1) = j := by unfold wrap64; omega
          go_cut [72] from 44 (fun v wx => v = .bool false ∧ wx = w5)
          case first =>
            have hl1 : j < j + 1 := by omega
            have htl : decide (tl > t) = false := decide_eq_false (by omega)
            go_wp2_with fail
            all_goals
              go_meet
              exact ⟨by simp, rfl⟩
          case rest =>
            obtain ⟨rfl, rfl⟩ := hcut
            go_wp2_with fail
            go_roundw
            case rel => exact ⟨_, hR5, k5⟩
            case measure => simp only [World.iterSeen, hR5, hR]; exact HM.out
    · go_wp2_with fail
      go_ret
      exact ⟨rfl, kA⟩
end Go.Proofs.YtelakcjbknbehaaGreat
