/- Lemmas and walks: Walks: the reference's Flush 43 of one transaction that waits. Walks: the reference's Buf.Set 103 and Valid 102 where no version is newer and nothing waits. Regions that draw their order: a load may be taken first though the region's last operations write its cell: what is kept of the world is asked behind those operations alone that do not wait for the load. Walks: the reference's Commit 42 of the one transaction that is open, with puts. Walks: the store's Write of one put, and which block it changes. Walks: versions that nobody reads are taken away: slices.Clone of versions 133; a map's entry is put anew, its stamp is kept. Walks: extmap.Prune 99: versions that nobody reads are taken away. Walks: numbers read out of bytes, the least first; bytes compared. Walks: how far a zone is written (zdev.Pointer 62); a row that is no frame (store.strange 84). Walks: zdev.Reset; what a Commit says of a text (slot.tail); slot.Room, slot.Dead. The blocks of a slot's text in plain words; rows of frames; what a device's calls change. Walks: slot.write (a text goes into a slot). -/
import Derived.Deep.RegionHeld3
import Derived.Deep.CutBlock
import Derived.Maps.RangeRun
import Derived.Test.YtelakcjbknbehaaGreatAe
import Derived.Test.YtelakcjbknbehaaGreatAg
import Derived.Test.YtelakcjbknbehaaGreatAi
import Derived.Test.YtelakcjbknbehaaGreatAj
namespace Go.Proofs.YtelakcjbknbehaaGreat
open Go.RowKit Go.Lib

set_option maxRecDepth 100000 in
set_option maxHeartbeats 8000000 in
theorem rflush_one (w : World) {lo G Y D V U n : Nat} {a b Tv qv qhv pv : Value} {xs : List Value} {L : List (Int × Int × List UInt8)} {P : List (Int × List UInt8)} {y st tm cd num giv dn t last : Int} (h : RmS w G Y a b Tv qv qhv (n + 1 : Nat) num giv dn 0) (ha : Int1 w a (n + 1 : Nat)) (hb : Int1 w b y) (hT : w.ownsRow lo 163 1 Tv (n + 1) (xs ++ [.pointer (some ⟨D, 0, none⟩)])) (hD : RtAt w D V U st tm cd) (hn : n ≤ 100000)
    (hq : Tx1 w qv t pv) (hP : PuX w pv P) (hqh : Int1 w qhv (n + 1 : Nat)) (hY : RyAt w Y L last) (hN : L.length ≤ 100000) (h0 : 0 < P.length) (h16 : P.length ≤ 16) (ht0 : last < t) (ht1 : t ≤ 1099511627776) (hr : RiseL P) (hk : ∀ p ∈ P, 0 ≤ p.1 ∧ p.1 < 258) (hn0 : 0 ≤ num) (hn1 : num ≤ 1000000) :
    Calls Tryz.prog 43 #[.pointer (some ⟨G, 0, none⟩)] w fun e w' => e = .returned (.int .i64 0) ∧ ∃ qv' qhv', RmS w' G Y (.slice none 0 0) (.slice none 0 0) Tv qv' qhv' (n + 1 : Nat) (num + 1) giv t 0 ∧ Nl qv' ∧ Nl qhv' ∧ RyAt w' Y (mergeR t L P) t ∧ Chg [G, Y, D] w w' := by
  obtain ⟨pb, cb, rfl, hcb, hxb⟩ := hP
  have HB := Lib.hid (rbatch_one w h hq (by omega) hn0 hn1)
  have HP : PuX w (.slice pb P.length cb) P := ⟨pb, cb, rfl, hcb, hxb⟩
  have av : ∀ ts : List Nat, 120 ∉ ts → Av w [G] ts := fun ts hts => Av.row h hts
  have a3 : ∀ g ∈ [G], ∀ cs fr, w.heap[g]? = some (.cells cs 3 fr) → cs.size = 0 := fun g hg cs fr hh => by
    rw [List.mem_singleton] at hg
    subst hg
    rw [h] at hh
    cases hh
  have HD := Lib.hid (fun (w2 : World) (k2 : Chg [G] w w2) (h2 : RmS w2 G Y a b Tv qv qhv (n + 1 : Nat) num giv dn 1) =>
    rdone_one w2 h2 (ha.keepT k2 a3) (hb.keepT k2 a3) (own_kp hT k2 (fun g hg hm => by
      obtain ⟨-, cs, hh⟩ := own_elem hT hg
      exact av [163] (by decide) g hm _ _ _ hh (by simp))) (k2.heap hD ((av [167] (by decide)).ne hD (by simp))) hn (hq.keepA k2 (av _ (by decide))) (HP.keepA k2 (av _ (by decide))) (hqh.keepT k2 a3) (hY.keepA k2 (av _ (by decide))) hN h0 h16 ht0 ht1 hr hk hn0 hn1)
  obtain ⟨g, c, rfl, -⟩ := hq
  clear h ha hb hT hD hxb HP av a3 hY hqh
  go_enter Tryz.func43, Tryz.ntmps43
  go_wp2_with fail
  refine HB.out.mono ?_
  rintro e w1 ⟨rfl, h1, k1⟩
  have ka : Chg [] w1 (w1.alloc (.cells #[.int .i64 (num + 1), .slice (some ⟨g, 0, none⟩) 1 c] 108)) := Chg.alloc w1 _
  have HK := Lib.hid (k1.then (ka.mono (fun x hx _ => by cases hx)))
  have HX := Lib.hid (HD.out _ HK.out (ka.heap h1 (by simp)))
  clear h1 k1 ka HB HD
  go_wp2_with fail
  refine HX.out.mono ?_
  rintro e w3 ⟨rfl, qv', qhv', q1, q2, q3, q4, q5⟩
  have HF := Lib.hid (And.intro q1 (And.intro q2 (And.intro q3 (And.intro q4 ((HK.out.mono (T := [G, Y, D]) (fun x hx _ => by rw [List.mem_singleton] at hx; simp [hx])).then q5)))))
  clear q1 q2 q3 q4 q5 HX
  go_wp2_with fail
  go_ret
  exact ⟨rfl, qv', qhv', HF.out⟩
end Go.Proofs.YtelakcjbknbehaaGreat
namespace Go.Proofs.YtelakcjbknbehaaGreat
open Go.RowKit Go.Lib

theorem rputA_pos : ∀ (l : List (Int × Int)) (f e : Int) (d : Bool) (out : List (Int × Int)), (d = true → out ≠ []) → 0 < (rputA l f e d out).length
  | [], f, e, d, out, h => by
    unfold rputA
    cases d
    · simp
    · simpa [List.length_pos_iff] using h rfl
  | x :: l, f, e, d, out, h => by
    unfold rputA
    split
    · exact rputA_pos l f e d _ (fun _ => by simp)
    · split
      · exact rputA_pos l f e true _ (fun _ => by simp)
      · exact rputA_pos l _ _ d out h
theorem rput_pos (l : List (Int × Int)) (x : Int × Int) : 0 < (rput l x).length := rputA_pos l _ _ false [] (fun h => by cases h)
set_option maxRecDepth 100000 in
set_option maxHeartbeats 4000000 in
theorem rbuf_set (w : World) {U : Nat} {P : List (Int × List UInt8)} (h : RbAt w U P) (hP : P.length ≤ 16) (hk : ∀ p ∈ P, 0 ≤ p.1 ∧ p.1 < 258) :
    Calls Tryz.prog 103 #[.pointer (some ⟨U, 0, none⟩)] w fun e w' => ∃ B pa m c, e = .returned (.pointer (some ⟨B, 0, none⟩)) ∧ Chg [] w w' ∧ w'.heap[B]? = some (.cells #[.int .i64 1048576, .slice pa m c] 177 (0, 0)) ∧ (0 < P.length → 0 < m) ∧ m ≤ P.length := by
  obtain ⟨pv, hU, pa, c, rfl, hc, hx⟩ := h
  obtain ⟨n, hn⟩ : ∃ n, n = P.length := ⟨_, rfl⟩
  rw [← hn] at hU hP hc ⊢
  have HH := Lib.hid (And.intro hU (And.intro hx (And.intro hn hk)))
  clear hU hx hn hk hc
  go_enter Tryz.func103, Tryz.ntmps103
  go_wp2_with fail
  have k0 : Chg [] w (w.alloc (.cells #[.int .i64 1048576, .slice none 0 0] 177)) := Chg.alloc w _
  have hB0 := heap_new w (.cells #[.int .i64 1048576, .slice none 0 0] 177)
  generalize hw1 : w.alloc (.cells #[.int .i64 1048576, .slice none 0 0] 177) = w1 at *
  obtain ⟨B, hB⟩ : ∃ B, B = w.heap.size := ⟨_, rfl⟩
  rw [← hB] at hB0 ⊢
  have H0 := Lib.hid (And.intro k0 (And.intro hB0 hB))
  clear k0 hB0 hB hw1
  go_loopw [4] (fun iv wr => ∃ (i : Nat) (v : Value) (S : List (Int × Int)), iv = .int .i64 i ∧ i ≤ n ∧ wr.heap[B]? = some (.cells #[.int .i64 1048576, v] 177 (0, 0)) ∧ wr.ownsRow 0 79 2 v S.length (spCells S) ∧ InE S ∧ S.length ≤ i ∧ (0 < i → 0 < S.length) ∧ Chg [] w wr) (fun iv _ => n - (intOf iv).toNat)
  case atStart => exact ⟨0, _, [], rfl, Nat.zero_le _, H0.out.2.1, World.ownsRow_nil _ _ _ _, (fun p hp => by cases hp), Nat.zero_le _, (fun h => by omega), H0.out.1⟩
  case round =>
    obtain ⟨i, v, S, rfl, hi, hB, ho, hE, hl, hp, kr⟩ := hrel
    have u2 : wr.cell? ⟨U, 2, none⟩ = some (.slice pa n c) := cell_is (kr.heap HH.out.1 (by simp)) 2 rfl
    have HR := Lib.hid (And.intro hB (And.intro ho (And.intro hE (And.intro hl (And.intro hp kr)))))
    clear hB ho hE hl hp kr
    by_cases hlt : i < n
    · have hlti : (i : Int) < n := by omega
      have hil : i < P.length := by have := HH.out.2.2.1; omega
      obtain ⟨g, o, u, rfl, -, d0, -, -⟩ := HH.out.2.1 i hil
      have d0 := HR.out.2.2.2.2.2.cell d0 (by simp)
      have hkk := HH.out.2.2.2 _ (List.getElem_mem hil)
      obtain ⟨b, hb⟩ : ∃ b, b = P[i].1 := ⟨_, rfl⟩
      rw [← hb] at d0 hkk
      clear hb
      have ka : Chg [] wr (wr.alloc (.cells #[.int .i64 b, .int .i64 1] 79)) := Chg.alloc wr _
      have a0 := heap_new wr (.cells #[.int .i64 b, .int .i64 1] 79)
      have hSp : Sp (wr.alloc (.cells #[.int .i64 b, .int .i64 1] 79)) wr.heap.size 0 [(b, 1)] := fun j u hu => by
        match j with
        | 0 => cases hu; exact cell_is a0 0 rfl
        | 1 => cases hu; exact cell_is a0 1 rfl
        | j + 2 => simp [spCells] at hu
      have hme : MayE b 1 := by unfold MayE; omega
      have HA := Lib.hid (radd_one (wr.alloc (.cells #[.int .i64 b, .int .i64 1] 79)) (B := B) (o := 0) (c := 1) (ka.heap HR.out.1 (by simp)) rfl rfl ((ExR.own HR.out.2.1 rfl).keep ka) (by have := HR.out.2.2.2.1; omega) HR.out.2.2.1 hme hSp (by have := HR.out.2.2.2.1; have := rput_len S (b, 1); omega))
      have HKA := Lib.hid (And.intro ka hkk)
      clear ka a0 hSp hme hkk
      go_wp2_with fail
      refine HA.out.mono ?_
      rintro e w3 ⟨rfl, v', hB3, k3, ho3⟩
      have HF := Lib.hid (And.intro hB3 (And.intro k3 ho3))
      clear hB3 k3 ho3 HA
      go_wp2_with fail
      go_roundw
      case rel =>
        have hl := rput_len S (b, 1)
        have hS := HR.out.2.2.2.1
        have hBs : w.heap.size ≤ B := by rw [H0.out.2.2]; exact Nat.le_refl _
        refine ⟨i + 1, v', rput S (b, 1), by go_num, hlt, HF.out.1, own_low HF.out.2.2 (Nat.zero_le _), rput_in HR.out.2.2.1 (fun p hp => ?_), by omega, fun _ => rput_pos _ _, (HR.out.2.2.2.2.2.then HKA.out.1).trans HF.out.2.1 (fun x hx hlt => by rw [List.mem_singleton] at hx; omega)⟩
        rw [List.mem_singleton] at hp
        rw [hp]
        exact ⟨HKA.out.2.1, by show (0 : Int) ≤ 1; omega, by have := HKA.out.2.2; show b + 1 ≤ _; omega⟩
      case measure => simp [intOf]; omega
    · obtain rfl : i = n := by omega
      go_wp2_with fail
      go_ret
      obtain ⟨pS, cS, rfl, -⟩ := own_form HR.out.2.1
      exact ⟨B, pS, _, cS, rfl, HR.out.2.2.2.2.2, HR.out.1, HR.out.2.2.2.2.1, HR.out.2.2.2.1⟩
set_option maxRecDepth 100000 in
set_option maxHeartbeats 4000000 in
theorem rvalid_old (w : World) {Y V B m c cq : Nat} {pa pq : Option Addr} {L : List (Int × Int × List UInt8)} {last t : Int} (h : RyAt w Y L last) (hL : L.length ≤ 100000) (hB : w.heap[B]? = some (.cells #[.int .i64 1048576, .slice pa m c] 177 (0, 0))) (hm : 0 < m) (hm1 : m ≤ 1000) (ht : ∀ x ∈ L, x.2.1 ≤ t) :
    Calls Tryz.prog 102 #[.pointer (some ⟨Y, 0, none⟩), .slice pq 0 cq, .int .i64 t, .pointer (some ⟨V, 3, none⟩), .pointer (some ⟨B, 0, none⟩)] w fun e w' => e = .returned (.int .i64 0) ∧ w = w' := by
  have b1 : w.cell? ⟨B, 1, none⟩ = some (.slice pa m c) := cell_is hB 1 rfl
  obtain ⟨pv, hY, pl, cl, rfl, hcl, hx⟩ := h
  obtain ⟨n, hn⟩ : ∃ n, n = L.length := ⟨_, rfl⟩
  rw [← hn] at hY hL hcl
  have y1 : w.cell? ⟨Y, 1, none⟩ = some (.slice pl n cl) := cell_is hY 1 rfl
  have hm0 : ((m : Int) == 0) = false := beq_eq_false_iff_ne.2 (by omega)
  have HH := Lib.hid (And.intro hx (And.intro hn ht))
  clear hx hn ht hY hB
  go_enter Tryz.func102, Tryz.ntmps102
  go_wp2_with fail
  go_loopw [11] (fun iv wr => ∃ i : Nat, iv = .int .i64 i ∧ i ≤ n ∧ wr = w) (fun iv _ => n - (intOf iv).toNat)
  case atStart => exact ⟨0, rfl, Nat.zero_le _, (by first | trivial | rfl)⟩
  case round =>
    obtain ⟨i, rfl, hi, rfl⟩ := hrel
    by_cases hlt : i < n
    · have hlti : (i : Int) < n := by omega
      have hil : i < L.length := by have := HH.out.2.1; omega
      obtain ⟨g, o, u, rfl, -, -, d1, -, -⟩ := HH.out.1 i hil
      have hq := HH.out.2.2 _ (List.getElem_mem hil)
      obtain ⟨k, hk⟩ : ∃ k, k = L[i].2.1 := ⟨_, rfl⟩
      rw [← hk] at d1 hq
      clear hk
      have hd : decide (t < k) = false := decide_eq_false (by omega)
      go_wp2_with fail
      go_roundw
      case rel => exact ⟨i + 1, by go_num, hlt, trivial⟩
      case measure => simp [intOf]; omega
    · obtain rfl : i = n := by omega
      go_wp2_with fail
      go_loopw [12] (fun iv wx => iv = .int .i64 0 ∧ wx = wr) (fun _ _ => 0)
      case atStart => exact ⟨rfl, (by first | trivial | rfl)⟩
      case round =>
        obtain ⟨rfl, rfl⟩ := hrel
        go_wp2_with fail
        go_ret
        exact ⟨rfl, rfl⟩
end Go.Proofs.YtelakcjbknbehaaGreat
namespace Go.Proofs.YtelakcjbknbehaaGreat
open Go.RowKit Go.Lib

section
variable {P : Program} {ops : Array Oper} {Q : Exit → Act → World → Prop} {S : World → Prop} {f : Nat → Bool}
/-- whatever order is picked from here on; S holds behind each operation that f names. -/
def AnyK (P : Program) (ops : Array Oper) (Q : Exit → Act → World → Prop) (S : World → Prop) (f : Nat → Bool) : Nat → Array Bool → Act → World → Prop
  | 0, listed, a, w => Region.ready .any ops listed = [] ∧ Q .normal a w
  | n + 1, listed, a, w => (Region.ready .any ops listed = [] → Q .normal a w) ∧
    ∀ i, i ∈ Region.ready .any ops listed → wpOp P ops Q i (fun a' w' => (f i = true → S w') ∧ AnyK P ops Q S f n (listed.setIfInBounds i true) a' w') a w
theorem AnyK.any {n : Nat} {listed : Array Bool} {a : Act} {w : World} (h : AnyK P ops Q S f n listed a w) : wpAny P .any ops Q n listed a w := by
  induction n generalizing listed a w with
  | zero => exact h
  | succ n ih => exact ⟨h.1, fun i hi => wpOp_mono (fun a' w' hk => ih hk.2) (h.2 i hi)⟩
/-- does every operation that f does not name wait for operation i? -/
def waitsK (ops : Array Oper) (f : Nat → Bool) (i : Nat) : Bool :=
  (List.range ops.size).all fun j => f j || ((ops[j]?).map fun o => o.after.any fun e => Region.binds .any e && e.on == i).getD true
theorem waitsK.spec {i j : Nat} {oj : Oper} (h : waitsK ops f i = true) (hj : ops[j]? = some oj) (hno : ∀ e, e ∈ oj.after → Region.binds .any e = true → e.on ≠ i) : f j = true := by
  unfold waitsK at h
  rw [List.all_eq_true] at h
  have h1 := h j (List.mem_range.2 (Array.getElem?_eq_some_iff.1 hj).1)
  rw [hj] at h1
  simp only [Option.map_some, Option.getD_some, Bool.or_eq_true] at h1
  rcases h1 with h1 | h1
  · exact h1
  · obtain ⟨e, he, hb⟩ := Array.any_eq_true'.1 h1
    simp only [Bool.and_eq_true, beq_iff_eq] at hb
    exact absurd hb.2 (hno e he hb.1)
theorem AnyK.first {i : Nat} {oi : Oper} {v : Value} (hi : ops[i]? = some oi) (hs : Region.noSelect ops = true) (hQ : ∀ c a w, Q (.panic c) (a.put oi.dst v) w → Q (.panic c) a w) (hw : waitsK ops f i = true) (n : Nat) :
    ∀ (listed : Array Bool) (a : Act) (w : World), (∀ j oj, ops[j]? = some oj → j ≠ i → listed.getD j true = false → (∀ e, e ∈ oj.after → Region.binds .any e = true → e.on ≠ i) → oi.apart ops oj = true) →
      i ∈ Region.ready .any ops listed → YieldsIf P ops S oi v a → S w → AnyK P ops Q S f n (listed.setIfInBounds i true) (a.put oi.dst v) w → AnyK P ops Q S f (n + 1) listed a w := by
  induction n with
  | zero =>
    intro listed a w _ hr hy hS H
    refine ⟨fun h => absurd hr (by rw [h]; exact List.not_mem_nil), fun j hj => ?_⟩
    rcases Nat.decEq j i with hne | rfl
    · have := ready_mono hj hne
      rw [H.1] at this
      exact absurd this List.not_mem_nil
    · exact hy.wpOp hi hS ⟨fun _ => hS, H⟩
  | succ n ih =>
    intro listed a w hap hr hy hS H
    refine ⟨fun h => absurd hr (by rw [h]; exact List.not_mem_nil), fun j hj => ?_⟩
    rcases Nat.decEq j i with hne | rfl
    · obtain ⟨hjl, oj, hoj, hja⟩ := mem_ready.1 hj
      have hno : ∀ e, e ∈ oj.after → Region.binds .any e = true → e.on ≠ i := fun e he hb hei => by
        have h1 := hja e he hb
        have h2 := (mem_ready.1 hr).1
        rw [hei] at h1
        cases hq : listed[i]? with
        | none => simp [Array.getD_eq_getD_getElem?, hq] at h1
        | some b => simp [Array.getD_eq_getD_getElem?, hq] at h1 h2; rw [h1] at h2; cases h2
      have hfj := waitsK.spec hw hoj hno
      refine wpOp_mono (fun a' w' hk => ⟨fun _ => hk.2.1 hfj, ih _ a' w' ?_ (ready_mono hr (Ne.symm hne)) hk.1 (hk.2.1 hfj) ?_⟩) (wpOp_putIf hoj (hap j oj hoj hne hjl hno) (fun cs b => Region.noSelect_spec hs i oi cs b hi) (fun cs b => Region.noSelect_spec hs j oj cs b hoj) hQ hy (H.2 j (ready_mono hj hne)))
      · intro k ok hok hki hkl hkn
        refine hap k ok hok hki ?_ hkn
        rcases Nat.decEq j k with hjk | rfl
        · rwa [getD_set_ne true hjk] at hkl
        · exact hjl
      · rw [Array.setIfInBounds_comm _ _ hne]
        exact hk.2.2
    · exact hy.wpOp hi hS ⟨fun _ => hS, H⟩
theorem AnyK.take {i : Nat} {oi : Oper} {v : Value} {n : Nat} {listed : Array Bool} {a : Act} {w : World} (hi : ops[i]? = some oi) (hs : Region.noSelect ops = true) (hf : Region.free .any ops listed i = true) (hr : (Region.ready .any ops listed).contains i = true)
    (hw : waitsK ops f i = true) (hQ : ∀ c a w, Q (.panic c) (a.put oi.dst v) w → Q (.panic c) a w) (hy : YieldsIf P ops S oi v a) (hS : S w) (h : AnyK P ops Q S f n (listed.setIfInBounds i true) (a.put oi.dst v) w) : AnyK P ops Q S f (n + 1) listed a w :=
  AnyK.first hi hs hQ hw n listed a w (fun j oj hj hne hl hno => Region.free_spec hi hf j oj hj hne hl hno) (by simpa using hr) hy hS h
/-- each of the operations rs comes up next. -/
def AllK (P : Program) (ops : Array Oper) (Q : Exit → Act → World → Prop) (S : World → Prop) (f : Nat → Bool) (n : Nat) (listed : Array Bool) (a : Act) (w : World) (rs : List Nat) : Prop :=
  ∀ i, i ∈ rs → wpOp P ops Q i (fun a' w' => (f i = true → S w') ∧ AnyK P ops Q S f n (listed.setIfInBounds i true) a' w') a w
theorem AllK.nil {n : Nat} {listed : Array Bool} {a : Act} {w : World} : AllK P ops Q S f n listed a w [] := fun _ h => absurd h List.not_mem_nil
theorem AllK.cons {n : Nat} {listed : Array Bool} {a : Act} {w : World} {i : Nat} {o : Oper} {rs : List Nat} (ho : ops[i]? = some o)
    (h : ∀ K' : Act → World → Prop, Shut (∀ a w, (f i = true → S w) → AnyK P ops Q S f n (listed.setIfInBounds i true) a w → K' a w) → if Region.wanted o (yielded ops a.tmps) = true then Oper.wp P o a w K' Q else K' (a.put o.dst undef) w)
    (hs : AllK P ops Q S f n listed a w rs) : AllK P ops Q S f n listed a w (i :: rs) := fun j hj => by
  rcases List.mem_cons.1 hj with rfl | hj
  · exact wpOp_step ho (fun K' hK => h K' (fun a w h1 h2 => hK a w ⟨h1, h2⟩))
  · exact hs j hj
theorem AnyK.ready {rs : List Nat} {n : Nat} {listed : Array Bool} {a : Act} {w : World} (hr : Region.ready .any ops listed = rs) (hne : rs ≠ []) (h : AllK P ops Q S f n listed a w rs) : AnyK P ops Q S f (n + 1) listed a w :=
  ⟨fun h0 => absurd (hr.symm.trans h0) hne, fun i hi => h i (hr ▸ hi)⟩
theorem AnyK.done {n : Nat} {listed : Array Bool} {a : Act} {w : World} (hr : Region.ready .any ops listed = []) (h : Q .normal a w) : AnyK P ops Q S f n listed a w := by
  cases n with
  | zero => exact ⟨hr, h⟩
  | succ n => exact ⟨fun _ => h, fun i hi => absurd hi (by rw [hr]; exact List.not_mem_nil)⟩
theorem region_anyK {id : Nat} {a : Act} {w : World} (S : World → Prop) (f : Nat → Bool) (hm : P.follows .mixedOrders = true) (h : AnyK P ops Q S f ops.size (Array.replicate ops.size false) a w.drew) : (Code.region id ops true).wp P Q a w :=
  wp_region_any hm h.any
end
end Go.Proofs.YtelakcjbknbehaaGreat
namespace Go.Proofs.YtelakcjbknbehaaGreat
open Go.RowKit Go.Lib

theorem tyTx : Tryz.prog.underlying 106 = some (.slice 185) := by kernel_rfl
theorem infTx : (Tryz.prog.info? 185).map (fun i => (i.zero, i.size, i.bytes)) = some (some (.agg #[.int .i64 0, .slice none 0 0]), 2, 32) := by kernel_rfl
theorem append_nl6 (w : World) (z : Nat) (ty : TypeId) (p : Option Addr) (c : Nat) : (Builtin.append_ #[106, 106] ty #[.slice (some ⟨z, 0, none⟩) 0 0, .slice p 0 c]).run Tryz.prog w = .ok (.slice (some ⟨z, 0, none⟩) 0 0) w := by
  obtain ⟨i, hi0, hz, hz1, hz2⟩ := info_parts infTx
  cases p <;> simp [Builtin.append_, run_underlying tyTx, sizeOf, typeInfo, hi0, Builtin.lenOf, Builtin.firstCells, storeCells, loadCells, loadCellsFrom]
theorem append_nl3 (w : World) (z : Nat) (ty : TypeId) (p : Option Addr) (c : Nat) : (Builtin.append_ #[115, 115] ty #[.slice (some ⟨z, 0, none⟩) 0 0, .slice p 0 c]).run Tryz.prog w = .ok (.slice (some ⟨z, 0, none⟩) 0 0) w := by
  obtain ⟨i, hi0, hz, hz1, hz2⟩ := info_parts inf3
  cases p <;> simp [Builtin.append_, run_underlying ty62, sizeOf, typeInfo, hi0, Builtin.lenOf, Builtin.firstCells, storeCells, loadCells, loadCellsFrom]
theorem own0t (w : World) (z : Nat) (hz : w.heap[z]? = some (.cells #[] 185 (0, 0))) : w.ownsRow 0 185 2 (.slice (some ⟨z, 0, none⟩) 0 0) 0 [] :=
  ⟨rfl, Or.inr ⟨z, 0, #[], rfl, Nat.zero_le _, hz, Nat.le_refl _, by unfold maxLen; omega, rfl, rfl⟩⟩
/-- a transaction is put behind an empty row of transactions. -/
theorem step_append_t2 {ops : Array Oper} {o : Oper} {a : Act} {w : World} {K : Act → World → Prop} {Q : Exit → Act → World → Prop} {E : Prop} (hgd : o.guard = none) (s x : Operand)
    (ho : o.op = .call { callee := .builtin .append, args := #[s, x], argTypes := #[106, 106] }) (z b c : Nat) (u0 u1 : Value) (hs : a.eval s = .slice (some ⟨z, 0, none⟩) 0 0) (hz : w.heap[z]? = some (.cells #[] 185 (0, 0)))
    (hx : a.eval x = .slice (some ⟨b, 0, none⟩) 1 c) (hb : w.heap[b]? = some (.cells #[u0, u1] 185 (0, 0))) (h1 : u0.oneCell' = true ∧ u1.oneCell' = true)
    (h : ∀ g cap w', Chg [z] w w' → w'.ownsRow 0 185 2 (.slice (some ⟨g, 0, none⟩) 1 cap) 1 [u0, u1] → K (a.put o.dst (.slice (some ⟨g, 0, none⟩) 1 cap)) w') :
    if Region.wanted o (yielded ops a.tmps) = true then Oper.wp Tryz.prog o a w K Q else E := by
  obtain ⟨i, hi0, hz0, hz1, hz2⟩ := info_parts infTx
  refine step_append_lies w hgd s x 106 ho 0 185 i _ 2 32 tyTx hi0 hz0 hz1 hz2 rfl (by decide) _ 0 [] hs (own0t w z hz) ⟨b, 0, none⟩ 1 c [u0, u1] hx rfl ?_ ?_ (by decide) (by unfold maxLen; omega) (by omega) (Nat.zero_le _) _ rfl ?_
  · intro j u hu
    rw [add_lit, Nat.zero_add]
    match j with
    | 0 => cases hu; exact cell_is hb 0 rfl
    | 1 => cases hu; exact cell_is hb 1 rfl
    | j + 2 => simp at hu
  · intro u hu
    simp at hu
    rcases hu with rfl | rfl
    · exact h1.1
    · exact h1.2
  · intro g cap w' h2 h3 _ _
    exact h g cap w' (Chg.of_grown h3) h2
theorem Tx1.own {w : World} {base g c : Nat} {t : Int} {pv : Value} (h : w.ownsRow base 185 2 (.slice (some ⟨g, 0, none⟩) 1 c) 1 [.int .i64 t, pv]) : Tx1 w (.slice (some ⟨g, 0, none⟩) 1 c) t pv := by
  rcases h.2 with ⟨e, h0⟩ | ⟨g', cap, cur, e, hA, hg, h1, h2, h3, h4⟩
  · omega
  · cases e
    refine ⟨g, c, rfl, h1, cur, hg, ?_, ?_⟩
    · have := congrArg (fun l => l[0]?) h4
      simpa [List.getElem?_take] using this
    · have := congrArg (fun l => l[1]?) h4
      simpa [List.getElem?_take] using this
set_option maxRecDepth 100000 in
set_option maxHeartbeats 8000000 in
theorem rcommit_one (w : World) {lo G Y D V U n k : Nat} {a b Tv qv qhv : Value} {xs : List Value} {L : List (Int × Int × List UInt8)} {P : List (Int × List UInt8)} {S : List (Int × Int)} {tm cd num giv dn t last : Int} (h : RmS w G Y a b Tv qv qhv (n + 1 : Nat) num giv dn 0) (hT : w.ownsRow lo 163 1 Tv (n + 1) (xs ++ [.pointer (some ⟨D, 0, none⟩)])) (hD : RtAt w D V U 1 tm cd) (hV : RvAt w lo V Y U t S k) (hU : RbAt w U P) (hn : n ≤ 100000)
    (hq : Nl qv) (hqh : Nl qhv) (hY : RyAt w Y L last) (hN : L.length ≤ 100000) (h0 : 0 < P.length) (h16 : P.length ≤ 16) (hk : ∀ p ∈ P, 0 ≤ p.1 ∧ p.1 < 258) (hol : ∀ x ∈ L, x.2.1 ≤ t) (hg0 : 0 ≤ giv) (hg1 : giv ≤ 1000000) :
    Calls Tryz.prog 42 #[.pointer (some ⟨G, 0, none⟩), .int .i64 (n + 1 : Nat)] w fun e w' => e = .returned (.int .i64 0) ∧ ∃ qv' qhv' pv, RmS w' G Y a b Tv qv' qhv' (n + 1 : Nat) num (giv + 1) dn 0 ∧ Tx1 w' qv' (giv + 1) pv ∧ PuX w' pv P ∧ Int1 w' qhv' (n + 1 : Nat) ∧ RtAt w' D V U 2 (giv + 1) cd ∧ Chg [G, D] w w' := by
  have HO := Lib.hid (ropen_last w h hT hD hn)
  obtain ⟨pq, cq, rfl⟩ := hq
  obtain ⟨ph, ch, rfl⟩ := hqh
  obtain ⟨sv, rv, xr, hVh, hVs, hVr⟩ := hV
  obtain ⟨pv, hUh, hPx⟩ := hU
  obtain ⟨pa, cp, rfl, hcp, hpx⟩ := id hPx
  obtain ⟨m, hm⟩ : ∃ m, m = P.length := ⟨_, rfl⟩
  rw [← hm] at hUh hPx h0 h16
  have hm0 : ((m : Int) == 0) = false := beq_eq_false_iff_ne.2 (by omega)
  have hgd : decide (1099511627776 ≤ giv) = false := decide_eq_false (by omega)
  have d4 : w.cell? ⟨D, 4, none⟩ = some (.pointer (some ⟨U, 0, none⟩)) := cell_is hD 4 rfl
  have u2 : w.cell? ⟨U, 2, none⟩ = some (.slice pa m cp) := cell_is hUh 2 rfl
  have g12 : w.cell? ⟨G, 12, none⟩ = some (.bool false) := cell_is h 12 rfl
  have g0 : w.cell? ⟨G, 0, none⟩ = some (.pointer (some ⟨Y, 0, none⟩)) := cell_is h 0 rfl
  have g6 : w.cell? ⟨G, 6, none⟩ = some (.slice pq 0 cq) := cell_is h 6 rfl
  have d3 : w.cell? ⟨D, 3, none⟩ = some (.pointer (some ⟨V, 0, none⟩)) := cell_is hD 3 rfl
  have v2 : w.cell? ⟨V, 2, none⟩ = some (.int .i64 t) := cell_is hVh 2 rfl
  have HS := Lib.hid (rbuf_set w.drew (U := U) (P := P) ⟨_, hUh, hPx⟩ (by omega) hk)
  have HH := Lib.hid (And.intro h (And.intro hD (And.intro hUh (And.intro hPx (And.intro hY hm)))))
  have HV := Lib.hid (fun (w2 : World) (k2 : Chg [] w w2) (B : Nat) (pS : Option Addr) (mS cS : Nat) (hB : w2.heap[B]? = some (.cells #[.int .i64 1048576, .slice pS mS cS] 177 (0, 0))) (h1 : 0 < mS) (h2 : mS ≤ 1000) => rvalid_old w2 (V := V) (cq := cq) (pq := pq) (t := t) (hY.keep k2) hN hB h1 h2 hol)
  clear h hT hD hVh hVs hVr hUh hPx hpx hY hm hcp hol
  go_enter Tryz.func42, Tryz.ntmps42
  go_wp2_with fail
  refine HO.out.mono ?_
  rintro e w1 ⟨rfl, rfl⟩
  go_wp2_with fail
  go_region_held3 (fun wx => wx.cell? ⟨G, 0, none⟩ = some (.pointer (some ⟨Y, 0, none⟩)) ∧ wx.cell? ⟨G, 6, none⟩ = some (.slice pq 0 cq) ∧ wx.cell? ⟨D, 3, none⟩ = some (.pointer (some ⟨V, 0, none⟩)) ∧ wx.cell? ⟨V, 2, none⟩ = some (.int .i64 t) ∧ wx.cell? ⟨D, 4, none⟩ = some (.pointer (some ⟨U, 0, none⟩)))
    (first | (exact ⟨g0, g6, d3, v2, d4⟩) | (exact ⟨k2.cell g0 (by simp), k2.cell g6 (by simp), k2.cell d3 (by simp), k2.cell v2 (by simp), k2.cell d4 (by simp)⟩))
    (first
      | (go_at_call 103; refine HS.out.mono ?_; rintro e w2 ⟨B, pS, mS, cS, rfl, k2, hB, hm1, hm2⟩; have hvl := HV.out w2 (((Chg.refl [] w).drew).then k2) B pS mS cS hB (hm1 (by have := HH.out.2.2.2.2.2; omega)) (by have := HH.out.2.2.2.2.2; omega))
      | (go_at_call 102; refine hvl.mono ?_; rintro e w3 ⟨rfl, rfl⟩))
  have K2 : Chg [] w w2 := ((Chg.refl [] w).drew).then k2
  have nGD : G ≠ D := heap_ne HH.out.1 HH.out.2.1 (by simp)
  have hG2 := K2.heap HH.out.1 (by simp)
  have hD2 := K2.heap HH.out.2.1 (by simp)
  have hU2 := K2.heap HH.out.2.2.1 (by simp)
  have g10 : w2.cell? ⟨G, 10, none⟩ = some (.int .i64 giv) := cell_is hG2 10 rfl
  have f10 := unfrozen hG2 10
  have hGA := heap_set hG2 10 (.int .i64 (giv + 1)) rfl
  have kA := Chg.set w2 G 10 (.int .i64 (giv + 1))
  have hDA := kA.heap hD2 (by simpa using nGD.symm)
  have d0A := cell_is hDA 0 rfl
  have f0A := unfrozen hDA 0
  have hDB := heap_set hDA 0 (.int .i64 2) rfl
  have kB := Chg.set (w2.setCell ⟨G, 10, none⟩ (.int .i64 (giv + 1))) D 0 (.int .i64 2)
  have hGB := kB.heap hGA (by simpa using nGD)
  have g10B : ((w2.setCell ⟨G, 10, none⟩ (.int .i64 (giv + 1))).setCell ⟨D, 0, none⟩ (.int .i64 2)).cell? ⟨G, 10, none⟩ = some (.int .i64 (giv + 1)) := cell_is hGB 10 rfl
  have d1B := cell_is hDB 1 rfl
  have f1B := unfrozen hDB 1
  have hDC := heap_set hDB 1 (.int .i64 (giv + 1)) rfl
  have kC := Chg.set ((w2.setCell ⟨G, 10, none⟩ (.int .i64 (giv + 1))).setCell ⟨D, 0, none⟩ (.int .i64 2)) D 1 (.int .i64 (giv + 1))
  have hGC := kC.heap hGB (by simpa using nGD)
  have nU : U ∉ [G, D] := fun hm => by
    simp only [List.mem_cons, List.not_mem_nil, or_false] at hm
    rcases hm with rfl | rfl
    · rw [hG2] at hU2; cases hU2
    · rw [hD2] at hU2; cases hU2
  have kk : Chg [G, D] w (((w2.setCell ⟨G, 10, none⟩ (.int .i64 (giv + 1))).setCell ⟨D, 0, none⟩ (.int .i64 2)).setCell ⟨D, 1, none⟩ (.int .i64 (giv + 1))) :=
    (((K2.mono (fun x hx _ => by cases hx)).then (kA.mono (fun x hx _ => by rw [List.mem_singleton] at hx; simp [hx]))).then (kB.mono (fun x hx _ => by rw [List.mem_singleton] at hx; simp [hx]))).then (kC.mono (fun x hx _ => by rw [List.mem_singleton] at hx; simp [hx]))
  have hUC := kk.heap HH.out.2.2.1 nU
  have avW : Av w [G, D] [5, 50] := fun x hx cs t fr hh => by
    simp only [List.mem_cons, List.not_mem_nil, or_false] at hx
    rcases hx with rfl | rfl
    · rw [HH.out.1] at hh; cases hh; decide
    · rw [HH.out.2.1] at hh; cases hh; decide
  have hPC := HH.out.2.2.2.1.keepA kk avW
  have HC := Lib.hid (And.intro (show RmS _ G Y a b Tv (.slice pq 0 cq) (.slice ph 0 ch) (n + 1 : Nat) num (giv + 1) dn 0 from hGC) (And.intro (show RtAt _ D V U 2 (giv + 1) cd from hDC) (And.intro hUC (And.intro hPC (And.intro kk nGD)))))
  clear hvl hm1 hm2 hB k2 K2 hG2 hD2 hU2 hGA kA hDA hDB kB hGB hDC kC hGC nU kk hUC avW hPC HS HV g0 g6 d3 v2 d4 u2 g12
  go_upto_region 19 with fail
  go_cut [] from 7 to 95 (fun wx => wx = ((w2.setCell ⟨G, 10, none⟩ (.int .i64 (giv + 1))).setCell ⟨D, 0, none⟩ (.int .i64 2)).setCell ⟨D, 1, none⟩ (.int .i64 (giv + 1)))
  case first =>
    go_wp2_with fail
    go_meet
    rfl
  case rest =>
    rw [← hcut] at HC
    clear hcut g10 f10 d0A f0A g10B d1B f1B
    generalize wc = wC at *
    obtain ⟨g1, hg1⟩ : ∃ g1 : Int, g1 = giv + 1 := ⟨_, rfl⟩
    rw [← hg1] at HC
    have HG1 := Lib.hid hg1
    clear hg1
    obtain ⟨hGC, hDC, hUC, hPC, kk, nGD⟩ := HC.out
    have hGl := heap_lt hGC
    have hS : ∀ wx, Chg [] wC wx → wx.cell? ⟨G, 10, none⟩ = some (.int .i64 g1) ∧ wx.cell? ⟨D, 4, none⟩ = some (.pointer (some ⟨U, 0, none⟩)) ∧ wx.cell? ⟨U, 2, none⟩ = some (.slice pa m cp) := fun wx kx => ⟨cell_is (kx.heap hGC (by simp)) 10 rfl, cell_is (kx.heap hDC (by simp)) 4 rfl, cell_is (kx.heap hUC (by simp)) 2 rfl⟩
    have h6 : ∀ wx, Chg [] wC wx → wx.cell? ⟨G, 6, none⟩ = some (.slice pq 0 cq) := fun wx kx => cell_is (kx.heap hGC (by simp)) 6 rfl
    have kd : Chg [] wC wC.drew := (Chg.refl [] wC).drew
    have hSF : ∀ wx, Chg [] wC wx → wx.cell? ⟨G, 10, none⟩ = some (.int .i64 g1) ∧ wx.cell? ⟨D, 4, none⟩ = some (.pointer (some ⟨U, 0, none⟩)) ∧ wx.cell? ⟨U, 2, none⟩ = some (.slice pa m cp) ∧ wx.cell? ⟨G, 6, none⟩ = some (.slice pq 0 cq) := fun wx kx => ⟨(hS wx kx).1, (hS wx kx).2.1, (hS wx kx).2.2, h6 wx kx⟩
    have g6 := h6 _ (Chg.refl [] wC)
    have g6d := h6 _ kd
    have g6a : ∀ o, (wC.alloc o).cell? ⟨G, 6, none⟩ = some (.slice pq 0 cq) := fun o => h6 _ (Chg.alloc wC o)
    have g6b : ∀ o p, ((wC.alloc o).alloc p).cell? ⟨G, 6, none⟩ = some (.slice pq 0 cq) := fun o p => h6 _ ((Chg.alloc wC o).then_alloc p)
    have s0 := hS _ (Chg.refl [] wC)
    have g10 := s0.1
    have d4 := s0.2.1
    have u2 := s0.2.2
    have sd := hS _ kd
    have g10d := sd.1
    have d4d := sd.2.1
    have u2d := sd.2.2
    have g10a : ∀ o, (wC.alloc o).cell? ⟨G, 10, none⟩ = some (.int .i64 g1) := fun o => (hS _ (Chg.alloc wC o)).1
    have d4a : ∀ o, (wC.alloc o).cell? ⟨D, 4, none⟩ = some (.pointer (some ⟨U, 0, none⟩)) := fun o => (hS _ (Chg.alloc wC o)).2.1
    have u2a : ∀ o, (wC.alloc o).cell? ⟨U, 2, none⟩ = some (.slice pa m cp) := fun o => (hS _ (Chg.alloc wC o)).2.2
    clear s0 sd
    obtain ⟨zA', bA'⟩ := two_new wC (.cells #[] 185) (.cells #[.int .i64 g1, .slice pa m cp] 185)
    obtain ⟨bB', zB'⟩ := two_new wC (.cells #[.int .i64 g1, .slice pa m cp] 185) (.cells #[] 185)
    have zA : ((wC.alloc (.cells #[] 185)).alloc (.cells #[.int .i64 g1, .slice pa m cp] 185)).drew.heap[wC.heap.size]? = some (.cells #[] 185 (0, 0)) := zA'
    have bA : ((wC.alloc (.cells #[] 185)).alloc (.cells #[.int .i64 g1, .slice pa m cp] 185)).drew.heap[wC.heap.size + 1]? = some (.cells #[.int .i64 g1, .slice pa m cp] 185 (0, 0)) := bA'
    have zB : ((wC.alloc (.cells #[.int .i64 g1, .slice pa m cp] 185)).alloc (.cells #[] 185)).drew.heap[wC.heap.size + 1]? = some (.cells #[] 185 (0, 0)) := zB'
    have bB : ((wC.alloc (.cells #[.int .i64 g1, .slice pa m cp] 185)).alloc (.cells #[] 185)).drew.heap[wC.heap.size]? = some (.cells #[.int .i64 g1, .slice pa m cp] 185 (0, 0)) := bB'
    have kA : Chg [] wC ((wC.alloc (.cells #[] 185)).alloc (.cells #[.int .i64 g1, .slice pa m cp] 185)).drew := ((Chg.alloc wC _).then_alloc _).drew
    have kB : Chg [] wC ((wC.alloc (.cells #[.int .i64 g1, .slice pa m cp] 185)).alloc (.cells #[] 185)).drew := ((Chg.alloc wC _).then_alloc _).drew
    clear zA' bA' zB' bB'
    have nUG : U ≠ G := heap_ne hUC hGC (by simp)
    have HS2 := Lib.hid hSF
    have HGC := Lib.hid hGC
    clear hS hSF h6 hGC hDC hUC hPC kk
    go_upto_region 20 with fail
    go_cut [] from 95 (fun wx => ∃ qv', Tx1 wx qv' g1 (.slice pa m cp) ∧ RmS wx G Y a b Tv qv' (.slice ph 0 ch) (n + 1 : Nat) num g1 dn 0 ∧ Chg [G] wC wx)
    case first =>
      refine region_anyK (fun wx => wx.cell? ⟨G, 10, none⟩ = some (.int .i64 g1) ∧ wx.cell? ⟨D, 4, none⟩ = some (.pointer (some ⟨U, 0, none⟩)) ∧ wx.cell? ⟨U, 2, none⟩ = some (.slice pa m cp) ∧ wx.cell? ⟨G, 6, none⟩ = some (.slice pq 0 cq)) (fun j => !(j == 23)) (by kernel_rfl) ?_
      have hSd := HS2.out _ kd
      refine AnyK.take (i := 0) (v := ?v1) rfl (by kernel_rfl) (by kernel_rfl) (by kernel_rfl) (by kernel_rfl) (fun _ _ _ h => h) (Or.inl ⟨by rfl, ?hy1⟩) hSd ?_
      case hy1 =>
        intro w hSw
        try dsimp only at hSw
        go_simp
        try with_reducible rfl
      try simp only [Act.put, List.setIfInBounds_toArray]
      refine AnyK.take (i := 2) (v := ?v2) rfl (by kernel_rfl) (by kernel_rfl) (by kernel_rfl) (by kernel_rfl) (fun _ _ _ h => h) (Or.inl ⟨by rfl, ?hy2⟩) hSd ?_
      case hy2 =>
        intro w hSw
        try dsimp only at hSw
        go_simp
        try with_reducible rfl
      try simp only [Act.put]
      refine AnyK.take (i := 3) (v := ?v3) rfl (by kernel_rfl) (by kernel_rfl) (by kernel_rfl) (by kernel_rfl) (fun _ _ _ h => h) (Or.inl ⟨by rfl, ?hy3⟩) hSd ?_
      case hy3 =>
        intro w hSw
        try dsimp only at hSw
        go_simp
        try with_reducible rfl
      try simp only [Act.put]
      refine AnyK.take (i := 4) (v := ?v4) rfl (by kernel_rfl) (by kernel_rfl) (by kernel_rfl) (by kernel_rfl) (fun _ _ _ h => h) (Or.inl ⟨by rfl, ?hy4⟩) hSd ?_
      case hy4 =>
        intro w hSw
        try dsimp only at hSw
        go_simp
        try with_reducible rfl
      try simp only [Act.put]
      refine AnyK.take (i := 5) (v := ?v5) rfl (by kernel_rfl) (by kernel_rfl) (by kernel_rfl) (by kernel_rfl) (fun _ _ _ h => h) (Or.inl ⟨by rfl, ?hy5⟩) hSd ?_
      case hy5 =>
        intro w hSw
        try dsimp only at hSw
        go_simp
        try with_reducible rfl
      try simp only [Act.put]
      refine AnyK.take (i := 7) (v := ?v6) rfl (by kernel_rfl) (by kernel_rfl) (by kernel_rfl) (by kernel_rfl) (fun _ _ _ h => h) (Or.inl ⟨by rfl, ?hy6⟩) hSd ?_
      case hy6 =>
        intro w hSw
        try dsimp only at hSw
        go_simp
        try with_reducible rfl
      try simp only [Act.put]
      refine AnyK.take (i := 8) (v := ?v7) rfl (by kernel_rfl) (by kernel_rfl) (by kernel_rfl) (by kernel_rfl) (fun _ _ _ h => h) (Or.inl ⟨by rfl, ?hy7⟩) hSd ?_
      case hy7 =>
        intro w hSw
        try dsimp only at hSw
        go_simp
        try with_reducible rfl
      try simp only [Act.put]
      refine AnyK.take (i := 9) (v := ?v8) rfl (by kernel_rfl) (by kernel_rfl) (by kernel_rfl) (by kernel_rfl) (fun _ _ _ h => h) (Or.inl ⟨by rfl, ?hy8⟩) hSd ?_
      case hy8 =>
        intro w hSw
        try dsimp only at hSw
        go_simp
        try with_reducible rfl
      try simp only [Act.put]
      refine AnyK.take (i := 10) (v := ?v9) rfl (by kernel_rfl) (by kernel_rfl) (by kernel_rfl) (by kernel_rfl) (fun _ _ _ h => h) (Or.inl ⟨by rfl, ?hy9⟩) hSd ?_
      case hy9 =>
        intro w hSw
        try dsimp only at hSw
        go_simp
        try with_reducible rfl
      try simp only [Act.put]
      refine AnyK.take (i := 11) (v := ?v10) rfl (by kernel_rfl) (by kernel_rfl) (by kernel_rfl) (by kernel_rfl) (fun _ _ _ h => h) (Or.inl ⟨by rfl, ?hy10⟩) hSd ?_
      case hy10 =>
        intro w hSw
        try dsimp only at hSw
        go_simp
        try with_reducible rfl
      try simp only [Act.put]
      refine AnyK.take (i := 12) (v := ?v11) rfl (by kernel_rfl) (by kernel_rfl) (by kernel_rfl) (by kernel_rfl) (fun _ _ _ h => h) (Or.inl ⟨by rfl, ?hy11⟩) hSd ?_
      case hy11 =>
        intro w hSw
        try dsimp only at hSw
        go_simp
        try with_reducible rfl
      try simp only [Act.put]
      refine AnyK.take (i := 13) (v := ?v12) rfl (by kernel_rfl) (by kernel_rfl) (by kernel_rfl) (by kernel_rfl) (fun _ _ _ h => h) (Or.inl ⟨by rfl, ?hy12⟩) hSd ?_
      case hy12 =>
        intro w hSw
        try dsimp only at hSw
        go_simp
        try with_reducible rfl
      try simp only [Act.put]
      refine AnyK.take (i := 14) (v := ?v13) rfl (by kernel_rfl) (by kernel_rfl) (by kernel_rfl) (by kernel_rfl) (fun _ _ _ h => h) (Or.inl ⟨by rfl, ?hy13⟩) hSd ?_
      case hy13 =>
        intro w hSw
        try dsimp only at hSw
        go_simp
        try with_reducible rfl
      try simp only [Act.put]
      refine AnyK.take (i := 15) (v := ?v14) rfl (by kernel_rfl) (by kernel_rfl) (by kernel_rfl) (by kernel_rfl) (fun _ _ _ h => h) (Or.inl ⟨by rfl, ?hy14⟩) hSd ?_
      case hy14 =>
        intro w hSw
        try dsimp only at hSw
        go_simp
        try with_reducible rfl
      try simp only [Act.put]
      refine AnyK.take (i := 16) (v := ?v15) rfl (by kernel_rfl) (by kernel_rfl) (by kernel_rfl) (by kernel_rfl) (fun _ _ _ h => h) (Or.inl ⟨by rfl, ?hy15⟩) hSd ?_
      case hy15 =>
        intro w hSw
        try dsimp only at hSw
        go_simp
        try with_reducible rfl
      try simp only [Act.put]
      refine AnyK.take (i := 17) (v := ?v16) rfl (by kernel_rfl) (by kernel_rfl) (by kernel_rfl) (by kernel_rfl) (fun _ _ _ h => h) (Or.inl ⟨by rfl, ?hy16⟩) hSd ?_
      case hy16 =>
        intro w hSw
        try dsimp only at hSw
        go_simp
        try with_reducible rfl
      try simp only [Act.put]
      refine AnyK.take (i := 18) (v := ?v17) rfl (by kernel_rfl) (by kernel_rfl) (by kernel_rfl) (by kernel_rfl) (fun _ _ _ h => h) (Or.inl ⟨by rfl, ?hy17⟩) hSd ?_
      case hy17 =>
        intro w hSw
        try dsimp only at hSw
        go_simp
        try with_reducible rfl
      try simp only [Act.put]
      refine AnyK.ready (rs := [1, 19]) (by kernel_rfl) (by simp) ?_
      refine AllK.cons (i := 1) rfl (fun K hK => ?_) ?_
      · go_simp
        refine hK.out _ _ (fun _ => by first | exact HS2.out _ (Chg.alloc wC _).drew | exact HS2.out _ ((Chg.alloc wC _).then_alloc _).drew | exact HS2.out _ k6) ?_
        clear hK K
        try simp only [Act.put, List.setIfInBounds_toArray, List.set_cons_zero, List.set_cons_succ]
        refine AnyK.ready (rs := [6, 19]) (by kernel_rfl) (by simp) ?_
        refine AllK.cons (i := 6) rfl (fun K hK => ?_) ?_
        · refine step_append_run rfl (.tmp 96) (.tmp 100) 106 106 rfl _ _ rfl rfl _ _ (append_nl6 _ _ _ _ _) ?_
          refine hK.out _ _ (fun _ => by first | exact HS2.out _ (Chg.alloc wC _).drew | exact HS2.out _ ((Chg.alloc wC _).then_alloc _).drew | exact HS2.out _ k6) ?_
          clear hK K
          try simp only [Act.put, List.setIfInBounds_toArray]
          refine AnyK.ready (rs := [19]) (by kernel_rfl) (by simp) ?_
          refine AllK.cons (i := 19) rfl (fun K hK => ?_) ?_
          · go_simp
            refine hK.out _ _ (fun _ => by first | exact HS2.out _ (Chg.alloc wC _).drew | exact HS2.out _ ((Chg.alloc wC _).then_alloc _).drew | exact HS2.out _ k6) ?_
            clear hK K
            try simp only [Act.put, List.setIfInBounds_toArray, List.set_cons_zero, List.set_cons_succ]
            refine AnyK.ready (rs := [20]) (by kernel_rfl) (by simp) ?_
            refine AllK.cons (i := 20) rfl (fun K hK => ?_) ?_
            · refine step_append_t2 rfl (.tmp 101) (.tmp 114) rfl wC.heap.size (wC.heap.size + 1) 1 _ _ rfl zA rfl bA ⟨rfl, rfl⟩ ?_
              intro g5 cp5 w5 k5 o5
              have k6 : Chg [] wC w5 := kA.trans k5 (by intro x hx hlt; rw [List.mem_singleton] at hx; omega)
              have r5 := k6.heap HGC.out (by simp)
              have c5 := cell_is r5 6 rfl
              have f5 := unfrozen r5 6
              refine hK.out _ _ (fun _ => by first | exact HS2.out _ (Chg.alloc wC _).drew | exact HS2.out _ ((Chg.alloc wC _).then_alloc _).drew | exact HS2.out _ k6) ?_
              clear hK K
              try simp only [Act.put, List.setIfInBounds_toArray]
              refine AnyK.ready (rs := [21]) (by kernel_rfl) (by simp) ?_
              refine AllK.cons (i := 21) rfl (fun K hK => ?_) ?_
              · go_simp
                refine hK.out _ _ (fun _ => by first | exact HS2.out _ (Chg.alloc wC _).drew | exact HS2.out _ ((Chg.alloc wC _).then_alloc _).drew | exact HS2.out _ k6) ?_
                clear hK K
                try simp only [Act.put, List.setIfInBounds_toArray, List.set_cons_zero, List.set_cons_succ]
                refine AnyK.ready (rs := [22]) (by kernel_rfl) (by simp) ?_
                refine AllK.cons (i := 22) rfl (fun K hK => ?_) ?_
                · go_simp
                  refine hK.out _ _ (fun _ => by first | exact HS2.out _ (Chg.alloc wC _).drew | exact HS2.out _ ((Chg.alloc wC _).then_alloc _).drew | exact HS2.out _ k6) ?_
                  clear hK K
                  try simp only [Act.put, List.setIfInBounds_toArray, List.set_cons_zero, List.set_cons_succ]
                  refine AnyK.ready (rs := [23]) (by kernel_rfl) (by simp) ?_
                  refine AllK.cons (i := 23) rfl (fun K hK => ?_) ?_
                  · go_simp
                    refine hK.out _ _ (fun h => absurd h (by decide)) ?_
                    clear hK K
                    try simp only [Act.put, List.setIfInBounds_toArray, List.set_cons_zero, List.set_cons_succ]
                    refine AnyK.done (by kernel_rfl) ?_
                    have hT1 : Tx1 (w5.setCell ⟨G, 6, none⟩ (.slice (some ⟨g5, 0, none⟩) 1 cp5)) (.slice (some ⟨g5, 0, none⟩) 1 cp5) g1 (.slice pa m cp) := (Tx1.own o5).keepA (Chg.set w5 G 6 _) (Av.row r5 (by decide))
                    have HT1 := Lib.hid (And.intro hT1 (And.intro r5 k6))
                    clear hT1 r5 k6 k5 o5 c5 f5
                    go_wp2_with fail
                    go_meet
                    exact ⟨_, HT1.out.1, heap_set HT1.out.2.1 6 _ rfl, (HT1.out.2.2.mono (fun x hx _ => by cases hx)).then (Chg.set w5 G 6 _)⟩
                  exact AllK.nil
                exact AllK.nil
              exact AllK.nil
            exact AllK.nil
          exact AllK.nil
        refine AllK.cons (i := 19) rfl (fun K hK => ?_) ?_
        · go_simp
          refine hK.out _ _ (fun _ => by first | exact HS2.out _ (Chg.alloc wC _).drew | exact HS2.out _ ((Chg.alloc wC _).then_alloc _).drew | exact HS2.out _ k6) ?_
          clear hK K
          try simp only [Act.put, List.setIfInBounds_toArray, List.set_cons_zero, List.set_cons_succ]
          refine AnyK.ready (rs := [6]) (by kernel_rfl) (by simp) ?_
          refine AllK.cons (i := 6) rfl (fun K hK => ?_) ?_
          · refine step_append_run rfl (.tmp 96) (.tmp 100) 106 106 rfl _ _ rfl rfl _ _ (append_nl6 _ _ _ _ _) ?_
            refine hK.out _ _ (fun _ => by first | exact HS2.out _ (Chg.alloc wC _).drew | exact HS2.out _ ((Chg.alloc wC _).then_alloc _).drew | exact HS2.out _ k6) ?_
            clear hK K
            try simp only [Act.put, List.setIfInBounds_toArray]
            refine AnyK.ready (rs := [20]) (by kernel_rfl) (by simp) ?_
            refine AllK.cons (i := 20) rfl (fun K hK => ?_) ?_
            · refine step_append_t2 rfl (.tmp 101) (.tmp 114) rfl wC.heap.size (wC.heap.size + 1) 1 _ _ rfl zA rfl bA ⟨rfl, rfl⟩ ?_
              intro g5 cp5 w5 k5 o5
              have k6 : Chg [] wC w5 := kA.trans k5 (by intro x hx hlt; rw [List.mem_singleton] at hx; omega)
              have r5 := k6.heap HGC.out (by simp)
              have c5 := cell_is r5 6 rfl
              have f5 := unfrozen r5 6
              refine hK.out _ _ (fun _ => by first | exact HS2.out _ (Chg.alloc wC _).drew | exact HS2.out _ ((Chg.alloc wC _).then_alloc _).drew | exact HS2.out _ k6) ?_
              clear hK K
              try simp only [Act.put]
              refine AnyK.ready (rs := [21]) (by kernel_rfl) (by simp) ?_
              refine AllK.cons (i := 21) rfl (fun K hK => ?_) ?_
              · go_simp
                refine hK.out _ _ (fun _ => by first | exact HS2.out _ (Chg.alloc wC _).drew | exact HS2.out _ ((Chg.alloc wC _).then_alloc _).drew | exact HS2.out _ k6) ?_
                clear hK K
                try simp only [Act.put, List.setIfInBounds_toArray, List.set_cons_zero, List.set_cons_succ]
                refine AnyK.ready (rs := [22]) (by kernel_rfl) (by simp) ?_
                refine AllK.cons (i := 22) rfl (fun K hK => ?_) ?_
                · go_simp
                  refine hK.out _ _ (fun _ => by first | exact HS2.out _ (Chg.alloc wC _).drew | exact HS2.out _ ((Chg.alloc wC _).then_alloc _).drew | exact HS2.out _ k6) ?_
                  clear hK K
                  try simp only [Act.put, List.setIfInBounds_toArray, List.set_cons_zero, List.set_cons_succ]
                  refine AnyK.ready (rs := [23]) (by kernel_rfl) (by simp) ?_
                  refine AllK.cons (i := 23) rfl (fun K hK => ?_) ?_
                  · go_simp
                    refine hK.out _ _ (fun h => absurd h (by decide)) ?_
                    clear hK K
                    try simp only [Act.put, List.setIfInBounds_toArray, List.set_cons_zero, List.set_cons_succ]
                    refine AnyK.done (by kernel_rfl) ?_
                    have hT1 : Tx1 (w5.setCell ⟨G, 6, none⟩ (.slice (some ⟨g5, 0, none⟩) 1 cp5)) (.slice (some ⟨g5, 0, none⟩) 1 cp5) g1 (.slice pa m cp) := (Tx1.own o5).keepA (Chg.set w5 G 6 _) (Av.row r5 (by decide))
                    have HT1 := Lib.hid (And.intro hT1 (And.intro r5 k6))
                    clear hT1 r5 k6 k5 o5 c5 f5
                    go_wp2_with fail
                    go_meet
                    exact ⟨_, HT1.out.1, heap_set HT1.out.2.1 6 _ rfl, (HT1.out.2.2.mono (fun x hx _ => by cases hx)).then (Chg.set w5 G 6 _)⟩
                  exact AllK.nil
                exact AllK.nil
              exact AllK.nil
            exact AllK.nil
          exact AllK.nil
        exact AllK.nil
      refine AllK.cons (i := 19) rfl (fun K hK => ?_) ?_
      · go_simp
        refine hK.out _ _ (fun _ => by first | exact HS2.out _ (Chg.alloc wC _).drew | exact HS2.out _ ((Chg.alloc wC _).then_alloc _).drew | exact HS2.out _ k6) ?_
        clear hK K
        try simp only [Act.put, List.setIfInBounds_toArray, List.set_cons_zero, List.set_cons_succ]
        refine AnyK.ready (rs := [1]) (by kernel_rfl) (by simp) ?_
        refine AllK.cons (i := 1) rfl (fun K hK => ?_) ?_
        · go_simp
          refine hK.out _ _ (fun _ => by first | exact HS2.out _ (Chg.alloc wC _).drew | exact HS2.out _ ((Chg.alloc wC _).then_alloc _).drew | exact HS2.out _ k6) ?_
          clear hK K
          try simp only [Act.put, List.setIfInBounds_toArray, List.set_cons_zero, List.set_cons_succ]
          refine AnyK.ready (rs := [6]) (by kernel_rfl) (by simp) ?_
          refine AllK.cons (i := 6) rfl (fun K hK => ?_) ?_
          · refine step_append_run rfl (.tmp 96) (.tmp 100) 106 106 rfl _ _ rfl rfl _ _ (append_nl6 _ _ _ _ _) ?_
            refine hK.out _ _ (fun _ => by first | exact HS2.out _ (Chg.alloc wC _).drew | exact HS2.out _ ((Chg.alloc wC _).then_alloc _).drew | exact HS2.out _ k6) ?_
            clear hK K
            try simp only [Act.put, List.setIfInBounds_toArray]
            refine AnyK.ready (rs := [20]) (by kernel_rfl) (by simp) ?_
            refine AllK.cons (i := 20) rfl (fun K hK => ?_) ?_
            · refine step_append_t2 rfl (.tmp 101) (.tmp 114) rfl (wC.heap.size + 1) wC.heap.size 1 _ _ rfl zB rfl bB ⟨rfl, rfl⟩ ?_
              intro g5 cp5 w5 k5 o5
              have k6 : Chg [] wC w5 := kB.trans k5 (by intro x hx hlt; rw [List.mem_singleton] at hx; omega)
              have r5 := k6.heap HGC.out (by simp)
              have c5 := cell_is r5 6 rfl
              have f5 := unfrozen r5 6
              refine hK.out _ _ (fun _ => by first | exact HS2.out _ (Chg.alloc wC _).drew | exact HS2.out _ ((Chg.alloc wC _).then_alloc _).drew | exact HS2.out _ k6) ?_
              clear hK K
              try simp only [Act.put]
              refine AnyK.ready (rs := [21]) (by kernel_rfl) (by simp) ?_
              refine AllK.cons (i := 21) rfl (fun K hK => ?_) ?_
              · go_simp
                refine hK.out _ _ (fun _ => by first | exact HS2.out _ (Chg.alloc wC _).drew | exact HS2.out _ ((Chg.alloc wC _).then_alloc _).drew | exact HS2.out _ k6) ?_
                clear hK K
                try simp only [Act.put, List.setIfInBounds_toArray, List.set_cons_zero, List.set_cons_succ]
                refine AnyK.ready (rs := [22]) (by kernel_rfl) (by simp) ?_
                refine AllK.cons (i := 22) rfl (fun K hK => ?_) ?_
                · go_simp
                  refine hK.out _ _ (fun _ => by first | exact HS2.out _ (Chg.alloc wC _).drew | exact HS2.out _ ((Chg.alloc wC _).then_alloc _).drew | exact HS2.out _ k6) ?_
                  clear hK K
                  try simp only [Act.put, List.setIfInBounds_toArray, List.set_cons_zero, List.set_cons_succ]
                  refine AnyK.ready (rs := [23]) (by kernel_rfl) (by simp) ?_
                  refine AllK.cons (i := 23) rfl (fun K hK => ?_) ?_
                  · go_simp
                    refine hK.out _ _ (fun h => absurd h (by decide)) ?_
                    clear hK K
                    try simp only [Act.put, List.setIfInBounds_toArray, List.set_cons_zero, List.set_cons_succ]
                    refine AnyK.done (by kernel_rfl) ?_
                    have hT1 : Tx1 (w5.setCell ⟨G, 6, none⟩ (.slice (some ⟨g5, 0, none⟩) 1 cp5)) (.slice (some ⟨g5, 0, none⟩) 1 cp5) g1 (.slice pa m cp) := (Tx1.own o5).keepA (Chg.set w5 G 6 _) (Av.row r5 (by decide))
                    have HT1 := Lib.hid (And.intro hT1 (And.intro r5 k6))
                    clear hT1 r5 k6 k5 o5 c5 f5
                    go_wp2_with fail
                    go_meet
                    exact ⟨_, HT1.out.1, heap_set HT1.out.2.1 6 _ rfl, (HT1.out.2.2.mono (fun x hx _ => by cases hx)).then (Chg.set w5 G 6 _)⟩
                  exact AllK.nil
                exact AllK.nil
              exact AllK.nil
            exact AllK.nil
          exact AllK.nil
        exact AllK.nil
      exact AllK.nil
    case rest =>
      obtain ⟨qv', hq1, hm1, k1⟩ := hcut
      have hGl := heap_lt hm1
      have c7 : wc.cell? ⟨G, 7, none⟩ = some (.slice ph 0 ch) := cell_is hm1 7 rfl
      have c7a : ∀ o, (wc.alloc o).cell? ⟨G, 7, none⟩ = some (.slice ph 0 ch) := fun o => cell_is (heap_old hm1) 7 rfl
      obtain ⟨hd, hde⟩ : ∃ hd : Int, hd = (n : Int) + 1 := ⟨_, rfl⟩
      obtain ⟨zA, bA⟩ := two_new wc (.cells #[] 3) (.cells #[.int .i64 ((n : Int) + 1)] 3)
      have rA : RmS ((wc.alloc (.cells #[] 3)).alloc (.cells #[.int .i64 ((n : Int) + 1)] 3)) G Y a b Tv qv' (.slice ph 0 ch) (n + 1 : Nat) num g1 dn 0 := heap_old (heap_old hm1)
      have kA0 : Chg [] wc ((wc.alloc (.cells #[] 3)).alloc (.cells #[.int .i64 ((n : Int) + 1)] 3)) := (Chg.alloc wc _).then_alloc _
      have nA : G ∉ [wc.heap.size] := by simp; omega
      have HF := Lib.hid (fun (g5 cp5 : Nat) (w5 : World) (k5 : Chg [wc.heap.size] ((wc.alloc (.cells #[] 3)).alloc (.cells #[.int .i64 ((n : Int) + 1)] 3)) w5) (o5 : w5.ownsRow 0 3 1 (.slice (some ⟨g5, 0, none⟩) 1 cp5) 1 [.int .i64 ((n : Int) + 1)]) =>
        (show ∃ qv' qhv' pv, RmS (w5.setCell ⟨G, 7, none⟩ (.slice (some ⟨g5, 0, none⟩) 1 cp5)) G Y a b Tv qv' qhv' (n + 1 : Nat) num (giv + 1) dn 0 ∧ Tx1 (w5.setCell ⟨G, 7, none⟩ (.slice (some ⟨g5, 0, none⟩) 1 cp5)) qv' (giv + 1) pv ∧ PuX (w5.setCell ⟨G, 7, none⟩ (.slice (some ⟨g5, 0, none⟩) 1 cp5)) pv P ∧ Int1 (w5.setCell ⟨G, 7, none⟩ (.slice (some ⟨g5, 0, none⟩) 1 cp5)) qhv' (n + 1 : Nat) ∧ RtAt (w5.setCell ⟨G, 7, none⟩ (.slice (some ⟨g5, 0, none⟩) 1 cp5)) D V U 2 (giv + 1) cd ∧ Chg [G, D] w (w5.setCell ⟨G, 7, none⟩ (.slice (some ⟨g5, 0, none⟩) 1 cp5)) from by
          have HC' := HC.out
          rw [← HG1.out]
          obtain ⟨hGC, hDC, hUC, hPC, kk, nGD⟩ := HC'
          have kk2 : Chg [G] wc (w5.setCell ⟨G, 7, none⟩ (.slice (some ⟨g5, 0, none⟩) 1 cp5)) := ((kA0.mono (T := [G]) (fun x hx _ => by cases hx)).trans k5 (by intro x hx hlt; rw [List.mem_singleton] at hx; omega)).then (Chg.set w5 G 7 _)
          have kT := k1.then kk2
          refine ⟨qv', _, _, heap_set (k5.heap rA nA) 7 _ rfl, hq1.keepA kk2 (Av.row hm1 (by decide)), hPC.keepA kT (Av.row hGC (by decide)), Int1.own (own_setC (G := G) (i := 7) (u := .slice (some ⟨g5, 0, none⟩) 1 cp5) o5 (k5.heap rA nA) (by decide)), kT.heap hDC (by simpa using nGD.symm), kk.then (kT.mono (fun x hx _ => by rw [List.mem_singleton] at hx; simp [hx]))⟩))
      clear hq1 k1 hde
      go_wp2_with (at_builtin; first
        | (refine Lib.wpList_append_run _ rfl (.tmp 119) (.tmp 123) 115 115 rfl _ _ rfl rfl _ _ (append_nl3 _ _ _ _ _) ?_)
        | (refine wpList_append_i2 rfl (.tmp 124) (.tmp 126) rfl wc.heap.size (wc.heap.size + 1) 1 _ rfl zA rfl (cell_is bA 0 rfl) ?_; intro g5 cp5 w5 k5 o5; have r5 := k5.heap rA nA; have c5 := cell_is r5 7 rfl; have f5 := unfrozen r5 7))
      have hf := Lib.hid (HF.out g5 cp5 w5 k5 o5)
      go_ret
      exact ⟨rfl, hf.out⟩
end Go.Proofs.YtelakcjbknbehaaGreat
namespace Go.Proofs.YtelakcjbknbehaaGreat
open Go.RowKit Go.Lib

section
variable {base : Nat} {d : Ids} {p : Par} {F : World → Prop}
set_option maxRecDepth 100000 in
theorem swrite_x (w : World) {q : Int → List UInt8} {L : List (Int × Value)} {n E eo cp D o c : Nat} {b : Int} {l : List UInt8} (hf : Fr base d p F) (h : Su w base d p F q L n)
    (e0 : w.cell? ⟨E, eo, none⟩ = some (.int .i64 b)) (e1 : w.cell? ⟨E, eo + 1, none⟩ = some (.slice (some ⟨D, o, none⟩) 40 c)) (hb : Bs w (some ⟨D, o, none⟩) l) (hl : l.length = 40) (h0 : 0 ≤ b) (h1 : b < 258) (hroom : L.length ≤ 15) :
    Calls Tryz.prog 17 #[.pointer (some ⟨d.P, 0, none⟩), .int .i64 p.h, .slice (some ⟨E, eo, none⟩) 1 cp] w fun e w' =>
    ∃ v, e = .returned (.int .i64 0) ∧ Ow base w w' ∧ Chg [d.rw] w w' ∧ Su w' base d p F (putQ q b l) (putL L b v) n := by
  have c5 := (hf.need _ h.env).p5
  have HO := Lib.hid (dead_gen w (hf.need _ h.env))
  have HW := Lib.hid (twrite_gen w (cp := cp) hf h e0 e1 hb hl h0 h1 hroom)
  have HS := Lib.hid h
  have HF := Lib.hid hf
  clear h e0 e1 hb hf
  go_enter Tryz.func17, Tryz.ntmps17
  go_wp2_with fail
  refine HO.out.mono ?_
  rintro e w1 ⟨rfl, rfl⟩
  go_wp2_with fail
  refine HW.out.mono ?_
  rintro e w1 ⟨g, c', rfl, kc, hbf, hbs, hbt⟩
  go_wp2_with fail
  go_ret
  have h := HS.out
  have hr : ∀ {x : Nat} {cs : Array Value} {t : TypeId}, w.heap[x]? = some (.cells cs t (0, 0)) → x ∉ [d.rw] := fun hx => by simpa using (map_cells h.buf.2 hx).symm
  have how : Ow base w w1 := by
    refine ⟨[d.rw], kc, fun x hx => ?_⟩
    rw [List.mem_singleton] at hx
    subst hx
    exact ⟨h.high.2.2, fun cs t fr hh => absurd rfl (map_cells h.buf.2 hh)⟩
  refine ⟨_, rfl, how, kc, HF.out.keep _ _ how h.env, kc.heap h.tx (hr h.tx), hbf, putL_keys (P := fun x => 0 ≤ x ∧ x < 258) h.keys ⟨h0, h1⟩, fun x hx hx' => ?_, h.vw.keep kc (av_map h.buf.2 _), h.sp.keep kc (av_map h.buf.2 _), h.high⟩
  unfold putQ
  by_cases hxb : x = b
  · rw [if_pos hxb]
    exact Or.inr ⟨g, c', by rw [getL_put, if_pos hxb], hbs, hl, hbt⟩
  · rw [if_neg hxb]
    rcases h.blk x hx hx' with ⟨hg, hz⟩ | ⟨g2, c2, hg, hb2, hl2, cs, ht2⟩
    · exact Or.inl ⟨by rw [getL_put, if_neg hxb]; exact hg, hz⟩
    · exact Or.inr ⟨g2, c2, by rw [getL_put, if_neg hxb]; exact hg, hb2.chgT kc (hr ht2), hl2, cs, kc.heap ht2 (hr ht2)⟩
end
end Go.Proofs.YtelakcjbknbehaaGreat
namespace Go.Proofs.YtelakcjbknbehaaGreat
open Go.RowKit Go.Lib

/-- versions out of which some were taken that nobody reads from a time on. -/
def Cut (t : Int) (l l' : List (Int × List UInt8)) : Prop := (∃ i, l' = l.drop i) ∧ (l ≠ [] → l' ≠ []) ∧ ∀ t', t ≤ t' → bytT l' t' = bytT l t'
theorem Cut.refl (t : Int) (l : List (Int × List UInt8)) : Cut t l l := ⟨⟨0, rfl⟩, fun h => h, fun _ _ => rfl⟩
theorem Cut.trans {t : Int} {a b c : List (Int × List UInt8)} (h : Cut t a b) (k : Cut t b c) : Cut t a c := by
  obtain ⟨⟨i, rfl⟩, h2, h3⟩ := h
  obtain ⟨⟨j, rfl⟩, k2, k3⟩ := k
  exact ⟨⟨i + j, by rw [List.drop_drop]⟩, fun e => k2 (h2 e), fun t' ht => (k3 t' ht).trans (h3 t' ht)⟩
theorem Cut.at_ {t : Int} {l : List (Int × List UInt8)} {k : Nat} (hk : k < l.length) (h : l[k].1 ≤ t) : Cut t l (l.drop k) := by
  refine ⟨⟨k, rfl⟩, fun _ e => ?_, fun t' ht => ?_⟩
  · have := congrArg List.length e
    simp at this
    omega
  · have h2 : l = l.take k ++ l.drop k := (List.take_append_drop k l).symm
    have h3 : verT (l.drop k) t' = verT l t' := by
      conv => rhs; rw [h2]
      unfold verT
      rw [List.reverse_append, List.find?_append]
      have h4 : ((l.drop k).reverse.find? (fun p => decide (p.1 ≤ t'))).isSome := by
        rw [List.find?_isSome]
        exact ⟨l[k], List.mem_reverse.2 (by rw [List.drop_eq_getElem_cons hk]; exact List.mem_cons_self), by simp; omega⟩
      obtain ⟨x, hx⟩ := Option.isSome_iff_exists.1 h4
      rw [hx]
      rfl
    unfold bytT
    rw [h3]
theorem Cut.sub {t : Int} {l l' : List (Int × List UInt8)} (h : Cut t l l') : l'.length ≤ l.length ∧ ∀ x ∈ l', x ∈ l := by
  obtain ⟨⟨i, rfl⟩, -, -⟩ := h
  exact ⟨by simp, fun x hx => List.mem_of_mem_drop hx⟩
theorem Cut.nil {t : Int} {l l' : List (Int × List UInt8)} (h : Cut t l l') (e : l = []) : l' = [] := by
  obtain ⟨⟨i, rfl⟩, -, -⟩ := h
  rw [e]; simp
theorem VRow.drop {w w' : World} {lo lo' : Nat} {v' : Value} {l : List (Int × List UInt8)} {xs : List Value} {k : Nat} (hx : ∀ i (h : i < l.length), xs[i * 2]? = some (.int .i64 l[i].1) ∧ ∃ g c, xs[i * 2 + 1]? = some (.slice (some ⟨g, 0, none⟩) 40 c) ∧ Bs w (some ⟨g, 0, none⟩) l[i].2 ∧ l[i].2.length = 40 ∧ Bt w g)
    (hc : Chg [] w w') (ho : w'.ownsRow lo' 288 2 v' (l.length - k) (xs.drop (k * 2))) (hlo : lo ≤ lo') : VRow w' lo v' (l.drop k) := by
  refine ⟨xs.drop (k * 2), ?_, fun i hi => ?_⟩
  · rw [List.length_drop]
    exact ownsRow_low ho hlo
  · have hi2 : k + i < l.length := by simp at hi; omega
    obtain ⟨h0, g, c, h1, h2, h3, h4⟩ := hx (k + i) hi2
    rw [List.getElem_drop]
    refine ⟨by rw [List.getElem?_drop, show k * 2 + i * 2 = (k + i) * 2 by omega]; exact h0, g, c, by rw [List.getElem?_drop, show k * 2 + (i * 2 + 1) = (k + i) * 2 + 1 by omega]; exact h1, h2.chg hc, h3, Bt.keep h4 hc (by simp)⟩
/-- the versions of one block are put anew. -/
theorem VerG.cut {wA wB : World} {lo X rx : Nat} {last b : Int} {L : List (Int × Value)} {vs : Int → List (Int × List UInt8)} {v v' : Value} {l' : List (Int × List UInt8)} (h : VerG wA lo X rx last L vs) (hap : ApL L) (hk : ∀ p ∈ L, 0 ≤ p.1 ∧ p.1 < 258) (hg : getL L b = some v) (hr : VRow wA lo v' l') (hl' : l' ≠ []) (hlen : l'.length ≤ (vs b).length)
    (hnew : ∀ g, v'.ownBlock = some g → ∀ c u, getL L c = some u → u.ownBlock ≠ some g) (mB : MapAt wB rx (putL L b v')) (kB : Chg [rx] wA wB) :
    VerG wB lo X rx last (putL L b v') (fun c => if c = b then l' else vs c) ∧ ApL (putL L b v') ∧ ∀ p ∈ putL L b v', 0 ≤ p.1 ∧ p.1 < 258 := by
  have avB : Av wA [rx] [5] := av_map h.m _
  have hb := hk _ (getL_memk hg)
  have keepR : ∀ {u : Value} {l : List (Int × List UInt8)}, VRow wA lo u l → VRow wB lo u l := fun {u l} hu => hu.keep kB avB (fun g' hg' hm => by
    obtain ⟨cs, h2⟩ := hu.block g' hg'
    rw [List.mem_singleton] at hm
    subst hm
    exact map_cells h.m h2 rfl)
  refine ⟨⟨kB.heap h.x (by simpa using (map_cells h.m h.x).symm), mB, fun c c0 c1 => ?_, fun c => ?_⟩, ?_, putL_keys (P := fun x => 0 ≤ x ∧ x < 258) hk hb⟩
  · rw [getL_put]
    by_cases hc : c = b
    · simp only [if_pos hc]
      exact Or.inr ⟨_, rfl, keepR hr, hl'⟩
    · simp only [if_neg hc]
      rcases h.row c c0 c1 with e | ⟨u, e1, e2, e3⟩
      · exact Or.inl e
      · exact Or.inr ⟨u, e1, keepR e2, e3⟩
  · show (if c = b then l' else vs c).length ≤ 1000000
    split
    · have := h.small b; omega
    · exact h.small c
  · intro c1 c2 v1 v2 gg hne h1 h2 e1 e2
    rw [getL_put] at h1 h2
    by_cases hc1 : c1 = b
    · rw [if_pos hc1] at h1
      cases h1
      rw [if_neg (fun e => hne (by rw [hc1, e]))] at h2
      exact hnew gg e1 c2 v2 h2 e2
    · rw [if_neg hc1] at h1
      by_cases hc2 : c2 = b
      · rw [if_pos hc2] at h2
        cases h2
        exact hnew gg e2 c1 v1 h1 e1
      · rw [if_neg hc2] at h2
        exact hap c1 c2 v1 v2 gg hne h1 h2 e1 e2
end Go.Proofs.YtelakcjbknbehaaGreat
namespace Go.Proofs.YtelakcjbknbehaaGreat
open Go.RowKit Go.Lib

/-- .. while it goes on. -/
structure PrI (w wr : World) (lo X rx R clock : Nat) (last t : Int) (vs : Int → List (Int × List UInt8)) (es0 : Array MapEntry) (seen : Array Nat) (es : Array MapEntry) (L : List (Int × Value)) (vr : Int → List (Int × List UInt8)) : Prop where
  it : wr.heap[R]? = some (.mapIter (some rx) clock seen clock)
  mp : wr.heap[rx]? = some (.map es clock)
  im : IMS es clock L
  bo : es.toList.map (·.born) = es0.toList.map (·.born)
  ver : VerG wr lo X rx last L vr
  ap : ApL L
  keys : ∀ p ∈ L, 0 ≤ p.1 ∧ p.1 < 258
  cut : ∀ b, Cut t (vs b) (vr b)
  chg : Chg [rx] w wr
theorem PrI.step {w wr w5 : World} {lo X rx R clock : Nat} {last t : Int} {vs : Int → List (Int × List UInt8)} {es0 : Array MapEntry} {seen : Array Nat} {es : Array MapEntry} {L : List (Int × Value)} {vr : Int → List (Int × List UInt8)} (h : PrI w wr lo X rx R clock last t vs es0 seen es L vr) (hR : w.heap.size ≤ R) {sn : Array Nat} (k : Chg [R] wr w5) (h5 : w5.heap[R]? = some (.mapIter (some rx) clock sn clock)) (hl : rx < w.heap.size) : PrI w w5 lo X rx R clock last t vs es0 sn es L vr := by
  have hne : rx ∉ [R] := by rw [List.mem_singleton]; omega
  refine ⟨h5, k.heap h.mp hne, h.im, h.bo, h.ver.keepA k (fun x hx cs t fr hh => ?_) hne, h.ap, h.keys, h.cut, h.chg.trans k (fun x hx hlt => ?_)⟩
  · rw [List.mem_singleton] at hx
    subst hx
    rw [h.it] at hh
    cases hh
  · rw [List.mem_singleton] at hx; omega
end Go.Proofs.YtelakcjbknbehaaGreat
namespace Go.Proofs.YtelakcjbknbehaaGreat
open Go.RowKit Go.Lib

theorem Bs.at_ {w : World} {D o : Nat} {l : List UInt8} (h : Bs w (some ⟨D, o, none⟩) l) (j : Nat) (hj : j < l.length) : w.cell? ⟨D, o + j, none⟩ = some (.int .u8 (l[j].toNat)) := by
  rcases h with h | ⟨b', o', e, hb, h⟩
  · rw [h] at hj; simp at hj
  · cases e
    exact h j hj
theorem Bs.sub {w : World} {b o : Nat} {l : List UInt8} (h : Bs w (some ⟨b, o, none⟩) l) (i n : Nat) : Bs w (some ⟨b, o + i, none⟩) ((l.drop i).take n) := by
  rcases h with h | ⟨b', o', e, hb, h⟩
  · rw [h]; exact Or.inl (by simp)
  · cases e
    refine Or.inr ⟨b, o + i, rfl, hb, fun j hj => ?_⟩
    have hj2 : i + j < l.length := by simp at hj; omega
    rw [Nat.add_assoc, h (i + j) hj2]
    simp
end Go.Proofs.YtelakcjbknbehaaGreat
namespace Go.Proofs.YtelakcjbknbehaaGreat
open Go.RowKit Go.Lib

theorem RowsAt.len {w : World} {base : Nat} {v : Value} {l : List (List UInt8)} (h : RowsAt w base v l) : ∃ pa c, v = .slice pa l.length c := by
  obtain ⟨xs, ho, -⟩ := h
  rcases ho.2 with ⟨h1, h0⟩ | ⟨g, cap, cur, e1, _, _, h1, _⟩
  · rw [h0]; exact ⟨_, _, h1⟩
  · exact ⟨_, _, e1⟩
set_option maxRecDepth 100000 in
set_option maxHeartbeats 1000000 in
theorem pointer_ok (w : World) {base N A c : Nat} {ops : Int} {Z : List Nat} {vs : Nat → Value} {gs : Nat → Nat} {zs : Nat → List (List UInt8)} (h : DevG w base N A c ops Z vs gs zs) (j : Nat) (hj : j < Z.length) :
    Calls Tryz.prog 59 #[.pointer (some ⟨N, 0, none⟩), .int .i64 j] w fun e w' => e = .returned (.tuple #[.int .i64 (zs j).length, .int .i64 0]) ∧ w = w' := by
  have HD := Lib.hid (dat_any w h j hj)
  obtain ⟨pa, cc, hv⟩ := (h.rows j (by have := h.len; omega)).len
  have z0 : w.cell? ⟨Z[j], 0, none⟩ = some (.slice pa (zs j).length cc) := by rw [← hv]; exact cell_is (h.zone j hj) 0 rfl
  clear h hv
  generalize Z[j] = z at *
  clear hj
  go_enter Tryz.func59, Tryz.ntmps59
  go_wp2_with fail
  refine HD.out.mono ?_
  rintro e w1 ⟨rfl, rfl⟩
  go_wp2_with fail
  go_ret2
  exact ⟨rfl, rfl⟩
end Go.Proofs.YtelakcjbknbehaaGreat
namespace Go.Proofs.YtelakcjbknbehaaGreat
open Go.RowKit Go.Lib

set_option maxHeartbeats 1000000 in
/-- Reset. -/
theorem dreset_any (w : World) {base N A c : Nat} {ops : Int} {Z : List Nat} {vs : Nat → Value} {gs : Nat → Nat} {zs : Nat → List (List UInt8)} (h : DevG w base N A c ops Z vs gs zs) (h0 : 0 ≤ ops) (h1 : ops ≤ 1000000) (j : Nat) (hj : j < Z.length) :
    Calls Tryz.prog 60 #[.pointer (some ⟨N, 0, none⟩), .int .i64 j] w fun e w' => e = .returned (.int .i64 0) ∧ Chg [N, Z[j]] w w' ∧ DevG w' base N A c (ops + 1) Z (upF vs j (.slice none 0 0)) (upF gs j 0) (upF zs j []) := by
  have HAt := Lib.hid (dat_any w h j hj)
  have HB := Lib.hid (dbegin_any w h h0 h1)
  clear h
  go_enter Tryz.func60, Tryz.ntmps60
  go_wp2_with fail
  refine HAt.out.mono ?_
  rintro e w1 ⟨rfl, rfl⟩
  go_wp2_with fail
  refine HB.out.mono ?_
  rintro e w2 ⟨rfl, hc1, h2⟩
  have hz := h2.zone j hj
  have hfin : ∀ w', w' = (w2.setCell ⟨Z[j], 0, none⟩ (.slice none 0 0)).setCell ⟨Z[j], 1, none⟩ (.int .i64 0) → Chg [N, Z[j]] w w' ∧ DevG w' base N A c (ops + 1) Z (upF vs j (.slice none 0 0)) (upF gs j 0) (upF zs j []) := by
    rintro w' rfl
    have k1 : Chg [Z[j]] w2 (w2.setCell ⟨Z[j], 0, none⟩ (.slice none 0 0)) := Chg.set _ _ _ _
    have d1 := h2.put hj (v' := .slice none 0 0) (l' := []) (w' := w2.setCell ⟨Z[j], 0, none⟩ (.slice none 0 0)) (k1.mono (fun x hx _ => by rw [List.mem_singleton] at hx; simp [hx])) (heap_set hz 0 _ rfl) (RowsAt.nil _ _) (fun g hg => by cases hg)
    exact ⟨(hc1.mono (fun x hx _ => by rw [List.mem_singleton] at hx; simp [hx])).then ((k1.mono (fun x hx _ => by rw [List.mem_singleton] at hx; simp [hx])).then ((Chg.set _ Z[j] 1 _).mono (fun x hx _ => by rw [List.mem_singleton] at hx; simp [hx]))), d1.setGood hj 0⟩
  have q0 := cell_is hz 0 rfl
  have q1 := cell_is hz 1 rfl
  have f0 := unfrozen hz 0
  have f1 := unfrozen hz 1
  have HF := Lib.hid hfin
  clear hfin h2 hc1 hz HB HAt
  generalize hgz : Z[j] = z at *
  have HZ := Lib.hid hgz
  clear hgz
  go_wp2_with fail
  go_ret
  rw [HZ.out]
  exact ⟨rfl, HF.out _ rfl⟩
/-- what a Commit says of a text. -/
def tailB (l : List UInt8) : List UInt8 := leB l.length 4 ++ leB (crcN l) 4
theorem tailB_length (l : List UInt8) : (tailB l).length = 8 := by simp [tailB, leB_length]
set_option maxHeartbeats 1000000 in
theorem tail_any (w : World) {pa : Option Addr} {m c : Nat} {l : List UInt8} (hb : Bs w pa l) (hl : l.length = m) (hm : m ≤ 1000000) : Calls Tryz.prog 191 #[.slice pa m c] w fun e w' => ∃ g c', e = .returned (.slice (some ⟨g, 0, none⟩) 8 c') ∧ Chg [] w w' ∧ w.heap.size ≤ g ∧ Bs w' (some ⟨g, 0, none⟩) (tailB l) ∧ Bt w' g := by
  have n1 : IntKind.u32.wrap (m : Int) = m := by rw [IntKind.wrap_u32]; omega
  have H1 := Lib.hid (put32_any w m (by omega))
  have HL := Lib.hid (And.intro hl hm)
  have HB := Lib.hid hb
  clear hb hl hm
  go_enter Tryz.func191, Tryz.ntmps191
  go_wp2_with fail
  refine H1.out.mono ?_
  rintro e w1 ⟨g1, rfl, k1, b1, s1⟩
  have HC := Lib.hid (crc_of w1 (c := c) (HB.out.chg k1) HL.out.1 HL.out.2)
  have HX := Lib.hid (And.intro k1 (And.intro b1 s1))
  clear k1 b1 s1 H1
  go_wp2_with fail
  refine HC.out.mono ?_
  rintro e w2 ⟨rfl, k2⟩
  have H2 := Lib.hid (put32_any w2 (crcN l) (crcN_lt l))
  have HY := Lib.hid (And.intro (HX.out.1.then k2) (HX.out.2.1.chg k2))
  clear k2 HC HX
  go_wp2_with fail
  refine H2.out.mono ?_
  rintro e w3 ⟨g2, rfl, k3, b3, s3⟩
  have ya := heap_new w3 (.cells #[.slice (some ⟨g1, 0, none⟩) 4 4, .slice (some ⟨g2, 0, none⟩) 4 4] 47)
  have ka : Chg [] w3 (w3.alloc (.cells #[.slice (some ⟨g1, 0, none⟩) 4 4, .slice (some ⟨g2, 0, none⟩) 4 4] 47)) := Chg.alloc w3 _
  have hR : Rws (w3.alloc (.cells #[.slice (some ⟨g1, 0, none⟩) 4 4, .slice (some ⟨g2, 0, none⟩) 4 4] 47)) w3.heap.size 0 [leB m 4, leB (crcN l) 4] := fun i hi => by
    match i, hi with
    | 0, _ => exact ⟨some ⟨g1, 0, none⟩, 4, cell_is ya 0 rfl, (HY.out.2.chg k3).chg ka⟩
    | 1, _ => exact ⟨some ⟨g2, 0, none⟩, 4, cell_is ya 1 rfl, b3.chg ka⟩
    | i + 2, h => exact absurd h (by simp)
  have HCo := Lib.hid (bconcat_any _ (cp := 2) (n := 8) (F := tailB l) hR rfl (by simp) (by simp [tailB, HL.out.1]) (tailB_length l) (by decide) (by decide))
  have HZ := Lib.hid ((HY.out.1.then k3).then ka)
  clear ya ka hR k3 b3 s3 HY H2
  go_wp2_with fail
  refine HCo.out.mono ?_
  rintro e w4 ⟨v, rfl, k4, o4⟩
  have hw : w.heap.size ≤ (w3.alloc (.cells #[.slice (some ⟨g1, 0, none⟩) 4 4, .slice (some ⟨g2, 0, none⟩) 4 4] 47)).heap.size := HZ.out.size
  have kf := HZ.out.then k4
  obtain ⟨g, c', rfl, hbt, hbs⟩ : ∃ g c', v = .slice (some ⟨g, 0, none⟩) 8 c' ∧ (w.heap.size ≤ g ∧ Bt w4 g) ∧ Bs w4 (some ⟨g, 0, none⟩) (tailB l) := by
    obtain ⟨pa2, c2, rfl, -⟩ := own_form o4
    rcases o4.2 with ⟨e, h0⟩ | ⟨g, cap, cur, e, hA, hg, -⟩
    · cases h0
    · cases e
      exact ⟨g, _, rfl, ⟨Nat.le_trans hw hA, _, hg⟩, Bs.own o4⟩
  go_wp2_with fail
  go_ret
  exact ⟨g, c', rfl, kf, hbt.1, hbs, hbt.2⟩
set_option maxHeartbeats 1000000 in
theorem sroom_any (w : World) {S N : Nat} {inn : Int} {tv : Value} {cnt : Nat} (h : SlotG w S N inn tv cnt) : Calls Tryz.prog 123 #[.pointer (some ⟨S, 0, none⟩)] w fun e w' => e = .returned (.int .i64 11440) ∧ Chg [] w w' := by
  have c0 : w.cell? ⟨S, 0, none⟩ = some (.pointer (some ⟨N, 0, none⟩)) := cell_is h 0 rfl
  have c1 : w.cell? ⟨S, 1, none⟩ = some (.int .i64 0) := cell_is h 1 rfl
  have c2 : w.cell? ⟨S, 2, none⟩ = some (.int .i64 3) := cell_is h 2 rfl
  have c3 : w.cell? ⟨S, 3, none⟩ = some (.int .i64 6) := cell_is h 3 rfl
  have c4 : w.cell? ⟨S, 4, none⟩ = some (.int .i64 96) := cell_is h 4 rfl
  clear h
  go_enter Tryz.func123, Tryz.ntmps123
  go_wp2_with fail
  go_quiet (fail)
  have kd : Chg [] w (w.drewN nq) := (Chg.refl [] w).drewN nq
  have c4q := kd.cell c4 (by simp)
  go_wp2_with fail
  go_ret
  exact ⟨rfl, kd⟩
theorem sldead_any (w : World) {S N : Nat} {inn : Int} {tv : Value} {cnt : Nat} (h : SlotG w S N inn tv cnt) : Calls Tryz.prog 124 #[.pointer (some ⟨S, 0, none⟩)] w fun e w' => e = .returned (.bool false) ∧ w = w' := by
  have c0 : w.cell? ⟨S, 0, none⟩ = some (.pointer (some ⟨N, 0, none⟩)) := cell_is h 0 rfl
  have c8 : w.cell? ⟨S, 8, none⟩ = some (.bool false) := cell_is h 8 rfl
  clear h
  go_enter Tryz.func124, Tryz.ntmps124
  go_wp2_with fail
  go_ret
  exact ⟨rfl, rfl⟩
end Go.Proofs.YtelakcjbknbehaaGreat
namespace Go.Proofs.YtelakcjbknbehaaGreat
open Go.RowKit Go.Lib

theorem own_chgB {w w' : World} {S : List Nat} {base e size n : Nat} {v : Value} {xs : List Value} (h : w.ownsRow base e size v n xs) (hc : Chg S w w') (hS : ∀ g, v.ownBlock = some g → g ∉ S) : w'.ownsRow base e size v n xs := by
  refine ⟨h.1, ?_⟩
  rcases h.2 with ⟨e, h0⟩ | ⟨g, cap, cur, e, hA, hg, h3⟩
  · exact Or.inl ⟨e, h0⟩
  · exact Or.inr ⟨g, cap, cur, e, hA, hc.heap hg (hS g (by rw [e]; rfl)), h3⟩
theorem Chg.of_grownO {w w' : World} {ob : Option Nat} (h : w.grownBy w' ob) : Chg ob.toList w w' := by
  cases ob with
  | none => exact Chg.of_grown0 h
  | some g => exact Chg.of_grown h
theorem ty270 : Tryz.prog.underlying 283 = some (.slice 282) := by kernel_rfl
theorem inf226 : (Tryz.prog.info? 282).map (fun i => (i.zero, i.size, i.bytes)) = some (some (.agg #[.int .i64 0, .int .i64 0, .int .i64 0, .int .i64 0, .slice none 0 0]), 5, 56) := by kernel_rfl
theorem wpList_append_fr {ops : Array Oper} {rest : List Oper} {o : Oper} {a : Act} {w : World} {Q : Exit → Act → World → Prop} (hgd : o.guard = none) (s x : Operand)
    (ho : o.op = .call { callee := .builtin .append, args := #[s, x], argTypes := #[283, 283] }) (base b c n : Nat) (v u0 u1 u2 u3 u4 : Value) (xs : List Value) (hs : a.eval s = v) (hown : w.ownsRow base 282 5 v n xs) (hbase : base ≤ w.heap.size) (hn : n ≤ 1000)
    (hx : a.eval x = .slice (some ⟨b, 0, none⟩) 1 c) (hb : w.heap[b]? = some (.cells #[u0, u1, u2, u3, u4] 282 (0, 0))) (h1 : u0.oneCell' = true ∧ u1.oneCell' = true ∧ u2.oneCell' = true ∧ u3.oneCell' = true ∧ u4.oneCell' = true)
    (h : ∀ g cap w', w'.ownsRow base 282 5 (.slice (some ⟨g, 0, none⟩) (n + 1) cap) (n + 1) (xs ++ [u0, u1, u2, u3, u4]) → Chg v.ownBlock.toList w w' → wpList Tryz.prog ops Q rest (a.put o.dst (.slice (some ⟨g, 0, none⟩) (n + 1) cap)) w') : wpList Tryz.prog ops Q (o :: rest) a w := by
  obtain ⟨i, hi0, hz, hz1, hz2⟩ := info_parts inf226
  refine wpList_append_lies w hgd s x 283 ho base 282 i _ 5 56 ty270 hi0 hz hz1 hz2 rfl (by decide) v n xs hs hown ⟨b, 0, none⟩ 1 c [u0, u1, u2, u3, u4] hx rfl ?_ ?_ (by decide) (by unfold maxLen; omega) (by omega) hbase _ rfl ?_
  · intro j u hu
    rw [show (⟨b, 0, none⟩ : Addr).add j = ⟨b, 0 + j, none⟩ from by unfold Addr.add; split <;> simp_all, Nat.zero_add]
    exact cell_is hb j (by simpa using hu)
  · intro u hu
    simp at hu
    obtain ⟨h2, h3, h4, h5, h6⟩ := h1
    rcases hu with rfl | rfl | rfl | rfl | rfl <;> assumption
  · intro g cap w' h2 h3 _ _
    exact h g cap w' h2 (Chg.of_grownO h3)
/-- a frame's kind, its number, its bytes. -/
abbrev Frm := Nat × Nat × List UInt8
/-- bytes in a block of bytes, or none. -/
def BsT (w : World) (pb : Option Addr) (l : List UInt8) : Prop := l = [] ∨ ∃ g o, pb = some ⟨g, o, none⟩ ∧ Bt w g ∧ Bs w pb l
theorem BsT.bs {w : World} {pb : Option Addr} {l : List UInt8} (h : BsT w pb l) : Bs w pb l := by
  rcases h with h | ⟨_, _, _, _, h⟩
  · exact Or.inl h
  · exact h
theorem BsT.keep {w w' : World} {U : List Nat} {pb : Option Addr} {l : List UInt8} (h : BsT w pb l) (hc : Chg U w w') (hU : Av w U [5]) : BsT w' pb l := by
  rcases h with h | ⟨g, o, rfl, hb, h⟩
  · exact Or.inl h
  · have hn : g ∉ U := Bt.av hb hU (by simp)
    exact Or.inr ⟨g, o, rfl, Bt.keep hb hc hn, h.chgT hc hn⟩
/-- a frame stands in a row. -/
def FrAt (w : World) (n : Nat) (f : Frm) (xs : List Value) (i : Nat) : Prop := ∃ pb c, xs[i * 5]? = some (.int .i64 f.1) ∧ xs[i * 5 + 1]? = some (.int .i64 0) ∧ xs[i * 5 + 2]? = some (.int .i64 n) ∧ xs[i * 5 + 3]? = some (.int .i64 f.2.1) ∧ xs[i * 5 + 4]? = some (.slice pb f.2.2.length c) ∧ BsT w pb f.2.2
def RowF (w : World) (base n : Nat) (v : Value) (fs : List Frm) : Prop := ∃ xs, w.ownsRow base 282 5 v fs.length xs ∧ ∀ i (h : i < fs.length), FrAt w n fs[i] xs i
theorem RowF.keep {w w' : World} {U : List Nat} {base n : Nat} {v : Value} {fs : List Frm} (h : RowF w base n v fs) (hc : Chg U w w') (hU : Av w U [5, 282]) : RowF w' base n v fs := by
  obtain ⟨xs, h1, h2⟩ := h
  refine ⟨xs, own_chgB h1 hc (fun g hg hm => ?_), fun i hi => ?_⟩
  · obtain ⟨-, cur, hh⟩ := own_elem h1 hg
    exact hU g hm _ _ _ hh (by simp)
  · obtain ⟨pb, c, e0, e1, e2, e3, e4, e5⟩ := h2 i hi
    exact ⟨pb, c, e0, e1, e2, e3, e4, e5.keep hc (fun x hx cs t fr hh hm => hU x hx cs t fr hh (by simp at hm; simp [hm]))⟩
theorem RowF.push {w w' : World} {base n g cap : Nat} {v : Value} {fs : List Frm} {f : Frm} {pb : Option Addr} {c : Nat} {xs : List Value} (hx : ∀ i (h : i < fs.length), FrAt w n fs[i] xs i) (hl : xs.length = fs.length * 5) (hv : w.ownsRow base 282 5 v fs.length xs)
    (ho : w'.ownsRow base 282 5 (.slice (some ⟨g, 0, none⟩) (fs.length + 1) cap) (fs.length + 1) (xs ++ [.int .i64 f.1, .int .i64 0, .int .i64 n, .int .i64 f.2.1, .slice pb f.2.2.length c])) (hc : Chg v.ownBlock.toList w w') (hb : BsT w pb f.2.2) : RowF w' base n (.slice (some ⟨g, 0, none⟩) (fs.length + 1) cap) (fs ++ [f]) := by
  have hU : Av w v.ownBlock.toList [5] := fun x hx cs t fr hh hm => by
    obtain ⟨-, cur, h2⟩ := own_elem hv (show v.ownBlock = some x by simpa using hx)
    rw [hh] at h2
    cases h2
    simp at hm
  refine ⟨_, by rw [List.length_append]; exact ho, fun i hi => ?_⟩
  by_cases e : i < fs.length
  · rw [List.getElem_append_left e]
    obtain ⟨pb, c, e0, e1, e2, e3, e4, e5⟩ := hx i e
    refine ⟨pb, c, ?_, ?_, ?_, ?_, ?_, e5.keep hc hU⟩
    all_goals (rw [List.getElem?_append_left (by omega)]; assumption)
  · have e2 : i = fs.length := by rw [List.length_append] at hi; simp at hi; omega
    subst e2
    rw [List.getElem_append_right (Nat.le_refl _)]
    simp only [Nat.sub_self, List.getElem_cons_zero]
    refine ⟨pb, c, ?_, ?_, ?_, ?_, ?_, hb.keep hc hU⟩
    · rw [List.getElem?_append_right (by omega), hl, Nat.sub_self]; rfl
    · rw [List.getElem?_append_right (by omega), hl, Nat.add_sub_cancel_left]; rfl
    · rw [List.getElem?_append_right (by omega), hl, Nat.add_sub_cancel_left]; rfl
    · rw [List.getElem?_append_right (by omega), hl, Nat.add_sub_cancel_left]; rfl
    · rw [List.getElem?_append_right (by omega), hl, Nat.add_sub_cancel_left]; rfl
theorem RowF.open_ {w : World} {base n K : Nat} {v : Value} {fs : List Frm} (h : RowF w base n v fs) (hK : fs.length = K) : ∃ xs pv cv, v = .slice pv K cv ∧ K ≤ cv ∧ w.ownsRow base 282 5 (.slice pv K cv) K xs ∧ ∀ (f : Frm) (pb : Option Addr) (c : Nat) (w' : World) (g cap : Nat),
    w'.ownsRow base 282 5 (.slice (some ⟨g, 0, none⟩) (K + 1) cap) (K + 1) (xs ++ [.int .i64 f.1, .int .i64 0, .int .i64 n, .int .i64 f.2.1, .slice pb f.2.2.length c]) → Chg (Value.slice pv K cv).ownBlock.toList w w' → BsT w pb f.2.2 → RowF w' base n (.slice (some ⟨g, 0, none⟩) (K + 1) cap) (fs ++ [f]) := by
  subst hK
  obtain ⟨xs, h1, h2⟩ := h
  obtain ⟨pv, cv, rfl, hc⟩ := own_form h1
  exact ⟨xs, pv, cv, rfl, hc, h1, fun f pb c w' g cap ho hc hb => RowF.push h2 h1.1 h1 ho hc hb⟩
theorem RowF.get {w : World} {base n : Nat} {v : Value} {fs : List Frm} (h : RowF w base n v fs) (i : Nat) (hi : i < fs.length) : ∃ g cap pb c, v = .slice (some ⟨g, 0, none⟩) fs.length cap ∧ fs.length ≤ cap ∧ (∃ cs, w.heap[g]? = some (.cells cs 282 (0, 0))) ∧
    w.cell? ⟨g, i * 5, none⟩ = some (.int .i64 fs[i].1) ∧ w.cell? ⟨g, i * 5 + 1, none⟩ = some (.int .i64 0) ∧ w.cell? ⟨g, i * 5 + 2, none⟩ = some (.int .i64 n) ∧ w.cell? ⟨g, i * 5 + 3, none⟩ = some (.int .i64 fs[i].2.1) ∧ w.cell? ⟨g, i * 5 + 4, none⟩ = some (.slice pb fs[i].2.2.length c) ∧ BsT w pb fs[i].2.2 := by
  obtain ⟨xs, h1, h2⟩ := h
  obtain ⟨pb, c, e0, e1, e2, e3, e4, e5⟩ := h2 i hi
  rcases h1.2 with ⟨e, h0⟩ | ⟨g, cap, cur, e, hA, hg, hc1, hc2, hc3, ht⟩
  · omega
  · have hget : ∀ k, k < fs.length * 5 → cur[k]? = xs[k]? := fun k hk => by
      rw [← ht, List.getElem?_take_of_lt hk, Array.getElem?_toList]
    exact ⟨g, cap, pb, c, e, hc1, ⟨_, hg⟩, cell_is hg _ (by rw [hget _ (by omega)]; exact e0), cell_is hg _ (by rw [hget _ (by omega)]; exact e1), cell_is hg _ (by rw [hget _ (by omega)]; exact e2), cell_is hg _ (by rw [hget _ (by omega)]; exact e3), cell_is hg _ (by rw [hget _ (by omega)]; exact e4), e5⟩
/-- a text in pieces of 40 bytes. -/
def nCh (m : Nat) : Nat := (m + 39) / 40
def chB (l : List UInt8) (j : Nat) : List UInt8 := (l.drop (40 * j)).take 40
theorem chB_length (l : List UInt8) (j : Nat) : (chB l j).length = min 40 (l.length - 40 * j) := by simp [chB]
/-- a slot's frames. -/
def frmA (l : List UInt8) (k : Nat) : List Frm := (3, 0, []) :: (List.range k).map fun j => (1, 0, chB l j)
def frmL (l : List UInt8) : List Frm := frmA l (nCh l.length) ++ [(2, nCh l.length, tailB l)]
theorem frmA_length (l : List UInt8) (k : Nat) : (frmA l k).length = k + 1 := by simp [frmA]
theorem frmL_length (l : List UInt8) : (frmL l).length = nCh l.length + 2 := by simp [frmL, frmA_length]
theorem frmA_succ (l : List UInt8) (k : Nat) : frmA l (k + 1) = frmA l k ++ [(1, 0, chB l k)] := by simp [frmA, List.range_succ]
def encS (n : Nat) (l : List UInt8) : List (List UInt8) := (frmL l).map fun f => encF f.1 0 n f.2.1 f.2.2
theorem encS_length (n : Nat) (l : List UInt8) : (encS n l).length = nCh l.length + 2 := by simp [encS, frmL_length]
theorem frmL_ok {l : List UInt8} (hl : l.length ≤ 11440) : ∀ f ∈ frmL l, (1 ≤ f.1 ∧ f.1 ≤ 3) ∧ f.2.1 ≤ 1000 ∧ f.2.2.length ≤ 40 := fun f hf => by
  have hn : nCh l.length ≤ 286 := by unfold nCh; omega
  rcases List.mem_append.1 hf with hf | hf
  · rcases List.mem_cons.1 hf with rfl | hf
    · exact ⟨⟨Nat.le_of_ble_eq_true rfl, Nat.le_of_ble_eq_true rfl⟩, Nat.zero_le _, Nat.zero_le _⟩
    · obtain ⟨j, -, rfl⟩ := List.mem_map.1 hf
      exact ⟨⟨Nat.le_refl 1, Nat.le_of_ble_eq_true rfl⟩, by show 0 ≤ 1000; omega, by show (chB l j).length ≤ 40; rw [chB_length]; omega⟩
  · rw [List.mem_singleton] at hf
    subst hf
    exact ⟨⟨Nat.le_of_ble_eq_true rfl, Nat.le_of_ble_eq_true rfl⟩, by show nCh l.length ≤ 1000; omega, by show (tailB l).length ≤ 40; rw [tailB_length]; omega⟩
/-- zones from a on, filled with blocks one behind the other, three of them. -/
def putF (zs : Nat → List (List UInt8)) (a : Nat) (F : List (List UInt8)) (k : Nat) : Nat → List (List UInt8) := fun z => if a ≤ z ∧ z < a + 3 then ((F.take k).drop (96 * (z - a))).take 96 else zs z
theorem putF_len {zs : Nat → List (List UInt8)} {a k : Nat} {F : List (List UInt8)} (hk : k < F.length) (hF : F.length ≤ 288) : (putF zs a F k (a + k / 96)).length = k % 96 := by
  have h1 : a ≤ a + k / 96 ∧ a + k / 96 < a + 3 := by omega
  simp only [putF, if_pos h1, List.length_take, List.length_drop]
  omega
theorem putF_succ {zs : Nat → List (List UInt8)} {a k : Nat} {F : List (List UInt8)} (hk : k < F.length) (hF : F.length ≤ 288) : upF (putF zs a F k) (a + k / 96) (putF zs a F k (a + k / 96) ++ [F[k]]) = putF zs a F (k + 1) := by
  have e0 : F.take (k + 1) = F.take k ++ [F[k]] := by rw [List.take_add_one, List.getElem?_eq_getElem hk]; rfl
  funext z
  by_cases e : z = a + k / 96
  · subst e
    have h1 : a ≤ a + k / 96 ∧ a + k / 96 < a + 3 := by omega
    simp only [upF, putF, if_pos h1, if_true]
    rw [Nat.add_sub_cancel_left, e0, List.drop_append_of_le_length (by simp; omega), List.take_append]
    have h2 : (List.drop (96 * (k / 96)) (List.take k F)).length = k % 96 := by simp; omega
    rw [h2]
    congr 1
    rw [List.take_of_length_le (by simp; omega)]
  · simp only [upF, if_neg e, putF]
    by_cases h1 : a ≤ z ∧ z < a + 3
    · rw [if_pos h1, if_pos h1]
      by_cases h2 : z < a + k / 96
      · rw [e0, List.drop_append_of_le_length (by simp; omega), List.take_append_of_le_length (by simp; omega)]
      · rw [List.drop_eq_nil_of_le (by simp; omega), List.drop_eq_nil_of_le (by simp; omega)]
    · rw [if_neg h1, if_neg h1]
theorem encS_get {n i : Nat} {l : List UInt8} (h : i < (frmL l).length) (h' : i < (encS n l).length) : (encS n l)[i] = encF (frmL l)[i].1 0 n (frmL l)[i].2.1 (frmL l)[i].2.2 := by simp [encS]
/-- what a device's calls change. -/
def Dc (lw : Nat) (w w' : World) : Prop := ∃ U, Chg U w w' ∧ Tp w U [128, 132, 47] ∧ ∀ x ∈ U, lw ≤ x
theorem Dc.of0 {lw : Nat} {w w' : World} (h : Chg [] w w') : Dc lw w w' := ⟨[], h, (fun x hx => by cases hx), fun x hx => by cases hx⟩
theorem Dc.trans {lw : Nat} {a b c : World} (h : Dc lw a b) (k : Dc lw b c) : Dc lw a c := by
  obtain ⟨U, h1, h2, h3⟩ := h
  obtain ⟨V, k1, k2, k3⟩ := k
  refine ⟨U ++ V.filter (fun x => decide (x < a.heap.size ∧ x ∉ U)), ?_, fun x hx => ?_, fun x hx => ?_⟩
  · refine (h1.mono (fun x hx _ => List.mem_append_left _ hx)).trans k1 (fun x hx hl => ?_)
    by_cases e : x ∈ U
    · exact List.mem_append_left _ e
    · exact List.mem_append_right _ (List.mem_filter.2 ⟨hx, by simpa using ⟨hl, e⟩⟩)
  · rcases List.mem_append.1 hx with hx | hx
    · exact h2 x hx
    · obtain ⟨hx1, hx2⟩ := List.mem_filter.1 hx
      obtain ⟨hl, hn⟩ : x < a.heap.size ∧ x ∉ U := by simpa using hx2
      obtain ⟨cs, t, e1, e2⟩ := k2 x hx1
      have : a.heap[x]? = b.heap[x]? := by
        have ho : a.heap[x]? = some a.heap[x] := Array.getElem?_eq_getElem hl
        rw [ho, h1.heap ho hn]
      exact ⟨cs, t, by rw [this]; exact e1, e2⟩
  · rcases List.mem_append.1 hx with hx | hx
    · exact h3 x hx
    · exact k3 x (List.mem_filter.1 hx).1
theorem Dc.size {lw : Nat} {w w' : World} (h : Dc lw w w') : w.heap.size ≤ w'.heap.size := by
  obtain ⟨U, h1, -⟩ := h
  exact h1.size
theorem Dc.heap {lw : Nat} {w w' : World} (h : Dc lw w w') {x : Nat} {cs : Array Value} {t : TypeId} (hh : w.heap[x]? = some (.cells cs t (0, 0))) (ht : t ∉ [128, 132, 47]) : w'.heap[x]? = some (.cells cs t (0, 0)) := by
  obtain ⟨U, h1, h2, -⟩ := h
  refine h1.heap hh (fun hm => ?_)
  obtain ⟨cs2, t2, e1, e2⟩ := h2 x hm
  rw [hh] at e1
  cases e1
  exact ht e2
end Go.Proofs.YtelakcjbknbehaaGreat
namespace Go.Proofs.YtelakcjbknbehaaGreat
open Go.RowKit Go.Lib

/-- zones that were emptied. -/
def clrF (zs : Nat → List (List UInt8)) (a j : Nat) : Nat → List (List UInt8) := fun z => if a ≤ z ∧ z < j then [] else zs z
theorem clrF_zero (zs : Nat → List (List UInt8)) (a : Nat) : clrF zs a a = zs := funext fun z => by simp only [clrF]; rw [if_neg (by omega)]
theorem clrF_succ {zs : Nat → List (List UInt8)} {a j : Nat} (h : a ≤ j) : upF (clrF zs a j) j [] = clrF zs a (j + 1) := funext fun z => by
  simp only [upF, clrF]
  by_cases e : z = j
  · rw [if_pos e, if_pos (by omega)]
  · rw [if_neg e]
    by_cases h2 : a ≤ z ∧ z < j
    · rw [if_pos h2, if_pos (by omega)]
    · rw [if_neg h2, if_neg (by omega)]
theorem clrF_same {zs : Nat → List (List UInt8)} {a j : Nat} (h : a ≤ j) (hz : clrF zs a j j = []) : clrF zs a (j + 1) = clrF zs a j := by
  rw [← clrF_succ h]
  funext z
  simp only [upF]
  by_cases e : z = j
  · subst e; rw [if_pos rfl, hz]
  · rw [if_neg e]
theorem putF_zero (zs : Nat → List (List UInt8)) (a : Nat) (F : List (List UInt8)) : putF zs a F 0 = clrF zs a (a + 3) := funext fun z => by
  simp only [putF, clrF]
  by_cases h : a ≤ z ∧ z < a + 3
  · rw [if_pos h, if_pos h]; simp
  · rw [if_neg h, if_neg h]
/-- how long the zones are. -/
def lenF (zs : Nat → List (List UInt8)) : Nat → Nat := fun z => (zs z).length
theorem lenF_up (zs : Nat → List (List UInt8)) (j : Nat) : upF (lenF zs) j 0 = lenF (upF zs j []) := by
  funext z
  simp only [upF, lenF]
  split <;> rfl
theorem DevG.good {w : World} {base N A c : Nat} {ops : Int} {Z : List Nat} {vs : Nat → Value} {gs : Nat → Nat} {zs : Nat → List (List UInt8)} (h : DevG w base N A c ops Z vs (goodF gs zs 8) zs) : DevG w base N A c ops Z vs (lenF zs) zs :=
  ⟨h.hdr, h.cap, h.len, h.tA, h.ptr, fun j hj => by
    have h1 := h.zone j hj
    have h2 : goodF gs zs 8 j = lenF zs j := by unfold goodF lenF; rw [if_pos (by have := h.len; omega)]
    rw [h2] at h1
    exact h1, h.rows, h.apart, h.nodup⟩
/-- a device somewhere behind: how many ops, which zones. -/
def DevZ (w : World) (base N A c : Nat) (ops : Int) (Z : List Nat) (zs : Nat → List (List UInt8)) : Prop := ∃ vs, DevG w base N A c ops Z vs (lenF zs) zs
theorem Dc.dev {lw : Nat} {w w' : World} {base N A c : Nat} {ops : Int} {Z : List Nat} {vs : Nat → Value} {gs : Nat → Nat} {zs : Nat → List (List UInt8)} {U : List Nat} (h : DevG w base N A c ops Z vs gs zs) (hc : Chg U w w') (hN : lw ≤ N) (hZ : ∀ z ∈ Z, lw ≤ z) (hb : lw ≤ base)
    (hU : ∀ x ∈ U, x = N ∨ x ∈ Z ∨ ∃ j, j < 8 ∧ (vs j).ownBlock = some x) : Dc lw w w' := by
  refine ⟨U, hc, fun x hx => ?_, fun x hx => ?_⟩
  · rcases hU x hx with rfl | h2 | ⟨j, hj, h2⟩
    · exact ⟨_, _, h.hdr, by simp⟩
    · obtain ⟨i, hi, rfl⟩ := List.getElem_of_mem h2
      exact ⟨_, _, h.zone i hi, by simp⟩
    · obtain ⟨cs, hh⟩ := (h.rows j hj).block x h2
      exact ⟨_, _, hh, by simp⟩
  · rcases hU x hx with rfl | h2 | ⟨j, hj, h2⟩
    · exact hN
    · exact hZ x h2
    · obtain ⟨xs, ho, -⟩ := h.rows j hj
      exact Nat.le_trans hb (own_elem ho h2).1
/-- what a write of a text leaves. -/
def SWr (w w' : World) (lw base N A c : Nat) (Z : List Nat) (ops : Int) (zs : Nat → List (List UInt8)) (a n : Nat) (l : List UInt8) : Prop :=
  ∃ ops', (ops ≤ ops' ∧ ops' ≤ ops + 300) ∧ DevZ w' base N A c ops' Z (putF zs a (encS n l) (encS n l).length) ∧ Dc lw w w'
set_option maxRecDepth 100000 in
set_option maxHeartbeats 8000000 in
theorem slwrite_any (w : World) {S N A c base lw n o cp : Nat} {inn : Int} {tv : Value} {cnt : Nat} {ops : Int} {Z : List Nat} {vs : Nat → Value} {gs : Nat → Nat} {zs : Nat → List (List UInt8)} {i a m D : Nat} {l : List UInt8}
    (hS : SlotG w S N inn tv cnt) (hd : DevG w base N A c ops Z vs gs zs) (h0 : 0 ≤ ops) (h1 : ops ≤ 900000) (hi : (i = 0 ∧ a = 0) ∨ (i = 1 ∧ a = 3)) (hn : n ≤ 1099511627776) (hb : Bs w (some ⟨D, o, none⟩) l) (hbt : Bt w D) (hl : l.length = m) (hm : m ≤ 11440) (hlow : base ≤ N) (hlw : lw ≤ base) (hZ : ∀ z ∈ Z, lw ≤ z) (hcp : m ≤ cp) :
    Calls Tryz.prog 125 #[.pointer (some ⟨S, 0, none⟩), .int .i64 i, .int .i64 n, .slice (some ⟨D, o, none⟩) m cp] w fun e w' => e = .returned (.int .i64 0) ∧ SWr w w' lw base N A c Z ops zs a n l := by
  have hlen8 := hd.len
  have c0 : w.cell? ⟨S, 0, none⟩ = some (.pointer (some ⟨N, 0, none⟩)) := cell_is hS 0 rfl
  have cA : w.cell? ⟨S, 1 + i, none⟩ = some (.int .i64 a) := by
    rcases hi with ⟨rfl, rfl⟩ | ⟨rfl, rfl⟩
    · exact cell_is hS 1 rfl
    · exact cell_is hS 2 rfl
  have n1 : IntKind.i64.wrap ((i : Int) + 1) = ((i + 1 : Nat) : Int) := by rw [IntKind.wrap_i64]; omega
  have hi1 : i ≤ 1 := by omega
  obtain ⟨e3, he3⟩ : ∃ e3, e3 = a + 3 := ⟨_, rfl⟩
  have HE3 := Lib.hid he3
  have he3a : a ≤ e3 ∧ e3 ≤ 6 := by omega
  clear he3
  have hi2 : (i : Int) < 3 := by omega
  have HI := Lib.hid hi
  have HS := Lib.hid hS
  have HD := Lib.hid (And.intro hd (And.intro hb hbt))
  have HB := Lib.hid (show lw ≤ N ∧ (∀ z ∈ Z, lw ≤ z) ∧ lw ≤ base ∧ base ≤ N from ⟨by omega, hZ, hlw, hlow⟩)
  clear hS hd hb hbt hi hZ
  go_enter Tryz.func125, Tryz.ntmps125
  go_wp2_with fail
  go_loopw [9, 10, 11, 12] (fun z _ _ _ wr => ∃ j : Nat, z = .int .i64 j ∧ (a ≤ j ∧ j ≤ e3) ∧ (∃ ops' vs' gs', (ops ≤ ops' ∧ ops' ≤ ops + (j - a : Nat)) ∧ DevG wr base N A c ops' Z vs' gs' (clrF zs a j)) ∧ Dc lw w wr) (fun z _ _ _ _ => e3 - (intOf z).toNat)
  case atStart => exact ⟨a, rfl, ⟨Nat.le_refl _, he3a.1⟩, ⟨ops, vs, gs, ⟨by omega, by omega⟩, by rw [clrF_zero]; exact HD.out.1⟩, Dc.of0 (Chg.refl _ _)⟩
  case round =>
    obtain ⟨j, rfl, ⟨hj0, hj1⟩, ⟨ops', vs', gs', ho, hd⟩, hdc⟩ := hrel
    have hSr : SlotG wr S N inn tv cnt := hdc.heap HS.out (by decide)
    have d0 : wr.cell? ⟨S, 0, none⟩ = some (.pointer (some ⟨N, 0, none⟩)) := cell_is hSr 0 rfl
    have dA : wr.cell? ⟨S, 1 + (i + 1), none⟩ = some (.int .i64 (e3 : Int)) := by
      rw [HE3.out]
      rcases HI.out with ⟨rfl, rfl⟩ | ⟨rfl, rfl⟩
      · exact cell_is hSr 2 rfl
      · exact cell_is hSr 3 rfl
    by_cases hlt : j < e3
    · have hj8 : j < Z.length := by omega
      have HP := Lib.hid (pointer_ok wr hd j hj8)
      have HR := Lib.hid (dreset_any wr hd (by omega) (by omega) j hj8)
      have HW := Lib.hid (And.intro hd (And.intro ho hdc))
      have m1 : decide ((j : Int) < (e3 : Int)) = true := decide_eq_true (by omega)
      clear hd ho hdc c0 cA hSr
      obtain ⟨p, hp⟩ : ∃ p, p = (clrF zs a j j).length := ⟨_, rfl⟩
      rw [← hp] at HP
      have Hp := Lib.hid hp
      clear hp
      have m2 : IntKind.i64.wrap ((j : Int) + 1) = ((j + 1 : Nat) : Int) := by rw [IntKind.wrap_i64]; omega
      go_wp2_with fail
      refine HP.out.mono ?_
      rintro e w1 ⟨rfl, rfl⟩
      by_cases hp0 : 0 < p
      · have m3 : decide (0 < (p : Int)) = true := decide_eq_true (by omega)
        go_wp2_with fail
        refine HR.out.mono ?_
        rintro e w2 ⟨rfl, k2, d2⟩
        have hnew : Hid ((∃ ops2 vs' gs', (ops ≤ ops2 ∧ ops2 ≤ ops + ((j + 1) - a : Nat)) ∧ DevG w2 base N A c ops2 Z vs' gs' (clrF zs a (j + 1))) ∧ Dc lw w w2) := Lib.hid (by
          obtain ⟨hd, ho, hdc⟩ := HW.out
          refine ⟨⟨ops' + 1, _, _, by omega, by rw [← clrF_succ hj0]; exact d2⟩, hdc.trans (Dc.dev hd k2 HB.out.1 HB.out.2.1 HB.out.2.2.1 (fun x hx => ?_))⟩
          simp only [List.mem_cons, List.not_mem_nil, or_false] at hx
          rcases hx with rfl | rfl
          · exact Or.inl rfl
          · exact Or.inr (Or.inl (List.getElem_mem _)))
        clear k2 d2 HR HP HW
        go_wp2_with fail
        go_roundw
        case rel => exact ⟨j + 1, rfl, ⟨by omega, by omega⟩, hnew.out.1, hnew.out.2⟩
        case measure => simp [intOf]; omega
      · have m3 : decide (0 < (p : Int)) = false := decide_eq_false (by omega)
        have hnew : Hid ((∃ ops2 vs' gs', (ops ≤ ops2 ∧ ops2 ≤ ops + ((j + 1) - a : Nat)) ∧ DevG wr base N A c ops2 Z vs' gs' (clrF zs a (j + 1))) ∧ Dc lw w wr) := Lib.hid (by
          obtain ⟨hd, ho, hdc⟩ := HW.out
          have hz : clrF zs a j j = [] := List.length_eq_zero_iff.1 (by have := Hp.out; omega)
          exact ⟨⟨ops', _, _, by omega, by rw [clrF_same hj0 hz]; exact hd⟩, hdc⟩)
        clear HR HP HW
        go_wp2_with fail
        go_roundw
        case rel => exact ⟨j + 1, rfl, ⟨by omega, by omega⟩, hnew.out.1, hnew.out.2⟩
        case measure => simp [intOf]; omega
    · have hje : j = e3 := by omega
      subst hje
      have m1 : decide ((j : Int) < (j : Int)) = false := decide_eq_false (by omega)
      have HW := Lib.hid (And.intro hd (And.intro ho hdc))
      clear hd ho hdc c0 cA hSr
      have hbr : Bs wr (some ⟨D, o, none⟩) l ∧ Bt wr D := by
        obtain ⟨U, u1, u2, -⟩ := HW.out.2.2
        have hn : D ∉ U := fun hm => by
          obtain ⟨cs, hh⟩ := HD.out.2.2
          obtain ⟨cs2, t2, e1, e2⟩ := u2 D hm
          rw [hh] at e1
          cases e1
          revert e2
          decide
        exact ⟨HD.out.2.1.chgT u1 hn, Bt.keep HD.out.2.2 u1 hn⟩
      have HT := Lib.hid hbr
      clear hbr
      go_wp2_with fail
      clear m1
      have kA : Chg [] wr (wr.alloc (.cells #[.int .i64 3, .int .i64 0, .int .i64 n, .int .i64 0, .slice none 0 0] 282)) := Chg.alloc wr _
      have yA := heap_new wr (.cells #[.int .i64 3, .int .i64 0, .int .i64 n, .int .i64 0, .slice none 0 0] 282)
      have hrow : RowF (wr.alloc (.cells #[.int .i64 3, .int .i64 0, .int .i64 n, .int .i64 0, .slice none 0 0] 282)) wr.heap.size n (.slice (some ⟨wr.heap.size, 0, none⟩) 1 1) (frmA l 0) := by
        refine ⟨[.int .i64 3, .int .i64 0, .int .i64 n, .int .i64 0, .slice none 0 0], ⟨rfl, Or.inr ⟨wr.heap.size, 1, _, rfl, Nat.le_refl _, yA, Nat.le_refl 1, by decide, rfl, rfl⟩⟩, fun i hi => ?_⟩
        have : i = 0 := by simp [frmA] at hi; omega
        subst this
        exact ⟨none, 0, rfl, rfl, rfl, rfl, rfl, Or.inl rfl⟩
      have HR0 := Lib.hid (And.intro hrow kA)
      clear hrow kA yA
      generalize hwA : wr.alloc (.cells #[.int .i64 3, .int .i64 0, .int .i64 n, .int .i64 0, .slice none 0 0] 282) = wA at *
      clear hwA
      go_loopw [13, 14] (fun v at_ wx => ∃ k p : Nat, at_ = .int .i64 (p : Int) ∧ (p = 40 * k ∧ k ≤ nCh m) ∧ RowF wx wr.heap.size n v (frmA l k) ∧ Chg [] wr wx) (fun _ at_ _ => m + 40 - (intOf at_).toNat)
      case atStart => exact ⟨0, 0, rfl, ⟨rfl, Nat.zero_le _⟩, HR0.out.1, HR0.out.2⟩
      case round =>
        obtain ⟨k, p, rfl, hpk, hrw, hcw⟩ := hrel
        rename World => wx
        have HPk := Lib.hid hpk
        have hpm : p ≤ m + 39 := by unfold nCh at hpk; omega
        clear hpk
        by_cases hkn : p < m
        · have m1 : decide ((p : Int) < (m : Int)) = true := decide_eq_true (by omega)
          have m2 : IntKind.i64.wrap ((p : Int) + 40) = ((p + 40 : Nat) : Int) := by rw [IntKind.wrap_i64]; omega
          obtain ⟨-, pv, cv, rfl, hcv, -⟩ := hrw.open_ (frmA_length l k)
          have hlr : wr.heap.size ≤ wx.heap.size := hcw.size
          have hr1000 : k + 1 ≤ 1000 := by have := HPk.out; omega
          have HRw := Lib.hid (And.intro hrw hcw)
          clear hrw hcw
          obtain ⟨q, hq⟩ : ∃ q, q = (min ((p : Int) + 40) m).toNat - p := ⟨_, rfl⟩
          have hq40 : q ≤ 40 := by omega
          have hqc : (chB l k).length = q := by rw [chB_length, hl]; have := HPk.out; omega
          have kB : Chg [] wx (wx.alloc (.cells #[.int .i64 1, .int .i64 0, .int .i64 n, .int .i64 0, .slice (some ⟨D, o + p, none⟩) q (cp - p)] 282)) := Chg.alloc wx _
          have yB := heap_new wx (.cells #[.int .i64 1, .int .i64 0, .int .i64 n, .int .i64 0, .slice (some ⟨D, o + p, none⟩) q (cp - p)] 282)
          have hRB := HRw.out.1.keep kB (Av.nil _ _)
          obtain ⟨xs, pv', cv', e, -, oB, hpush⟩ := hRB.open_ (frmA_length l k)
          cases e
          have hBT : BsT (wx.alloc (.cells #[.int .i64 1, .int .i64 0, .int .i64 n, .int .i64 0, .slice (some ⟨D, o + p, none⟩) q (cp - p)] 282)) (some ⟨D, o + p, none⟩) (chB l k) := by
            have h1 := (HT.out.1.chg HRw.out.2).chg kB
            refine Or.inr ⟨D, o + p, rfl, Bt.keep (Bt.keep HT.out.2 HRw.out.2 (by simp)) kB (by simp), ?_⟩
            have h2 := h1.sub p 40
            unfold chB
            rw [← HPk.out.1]
            exact h2
          have HPu := Lib.hid (hpush (1, 0, chB l k) (some ⟨D, o + p, none⟩) (cp - p))
          have HBT := Lib.hid (And.intro hBT (And.intro hqc (And.intro kB (frmA_succ l k))))
          have hlB : wr.heap.size ≤ (wx.alloc (.cells #[.int .i64 1, .int .i64 0, .int .i64 n, .int .i64 0, .slice (some ⟨D, o + p, none⟩) q (cp - p)] 282)).heap.size := Nat.le_trans hlr kB.size
          clear hRB hpush hBT hqc kB
          go_upto_region 12 with (first | (rw [← hq]; at_builtin; refine wpList_append_fr rfl (.tmp 65) (.tmp 76) rfl wr.heap.size wx.heap.size 1 (k + 1) (.slice pv (k + 1) cv) _ _ _ _ _ xs rfl oB hlB hr1000 rfl yB ⟨rfl, rfl, rfl, rfl, rfl⟩ ?_; intro g7 c7 w7 o7 k7))
          have hnew : Hid (RowF w7 wr.heap.size n (.slice (some ⟨g7, 0, none⟩) (k + 1 + 1) c7) (frmA l (k + 1)) ∧ Chg [] wr w7) := Lib.hid (by
            obtain ⟨b1, b2, b3, b4⟩ := HBT.out
            refine ⟨by rw [b4]; exact HPu.out w7 g7 c7 (by show w7.ownsRow _ _ _ _ _ (xs ++ [_, _, _, _, .slice _ (chB l k).length _]); rw [b2]; exact o7) k7 b1, (HRw.out.2.then b3).trans k7 (fun x hx hl => ?_)⟩
            have h1 := (own_elem oB (show (Value.slice pv (k + 1) cv).ownBlock = some x by simpa using hx)).1
            omega)
          clear HPu HBT o7 k7 oB yB HRw
          go_wp2_with fail
          go_roundw
          case rel => exact ⟨k + 1, p + 40, rfl, ⟨by have := HPk.out; omega, by have := HPk.out; unfold nCh; omega⟩, hnew.out.1, hnew.out.2⟩
          case measure => simp [intOf]; omega
        · have m1 : decide ((p : Int) < (m : Int)) = false := decide_eq_false (by omega)
          have hkn : k = nCh m := by have := HPk.out; unfold nCh at this ⊢; omega
          have HKn := Lib.hid hkn
          have hk286 : k ≤ 286 := by unfold nCh at hkn; omega
          clear hkn
          obtain ⟨-, pv, cv, rfl, hcv, -⟩ := hrw.open_ (frmA_length l k)
          have hlr : wr.heap.size ≤ wx.heap.size := hcw.size
          have HTl := Lib.hid (tail_any wx (c := cp) (HT.out.1.chg hcw) hl (by omega))
          have HRw := Lib.hid (And.intro hrw hcw)
          clear hrw hcw HR0
          have m2 : IntKind.i64.wrap ((k : Int) + 1 - 1) = (k : Int) := by rw [IntKind.wrap_i64]; omega
          go_wp2_with fail
          refine HTl.out.mono ?_
          rintro e w3 ⟨gt, ct, rfl, k3, s3, b3, t3⟩
          have kB : Chg [] w3 (w3.alloc (.cells #[.int .i64 2, .int .i64 0, .int .i64 n, .int .i64 k, .slice (some ⟨gt, 0, none⟩) 8 ct] 282)) := Chg.alloc w3 _
          have yB := heap_new w3 (.cells #[.int .i64 2, .int .i64 0, .int .i64 n, .int .i64 k, .slice (some ⟨gt, 0, none⟩) 8 ct] 282)
          have hRB := HRw.out.1.keep (k3.then kB) (Av.nil _ _)
          obtain ⟨xs, pv', cv', e, -, oB, hpush⟩ := hRB.open_ (frmA_length l k)
          cases e
          have hBT : BsT (w3.alloc (.cells #[.int .i64 2, .int .i64 0, .int .i64 n, .int .i64 k, .slice (some ⟨gt, 0, none⟩) 8 ct] 282)) (some ⟨gt, 0, none⟩) (tailB l) := Or.inr ⟨gt, 0, rfl, Bt.keep t3 kB (by simp), b3.chg kB⟩
          have HPu := Lib.hid (hpush (2, k, tailB l) (some ⟨gt, 0, none⟩) ct)
          have HBT := Lib.hid (And.intro hBT ((HRw.out.2.then k3).then kB))
          have hlB : wr.heap.size ≤ (w3.alloc (.cells #[.int .i64 2, .int .i64 0, .int .i64 n, .int .i64 k, .slice (some ⟨gt, 0, none⟩) 8 ct] 282)).heap.size := HBT.out.2.size
          have hr1000 : k + 1 ≤ 1000 := by omega
          clear hRB hpush hBT kB k3 s3 b3 t3 HTl HRw
          go_upto_region 15 with (first | (at_builtin; refine wpList_append_fr rfl (.tmp 78) (.tmp 86) rfl wr.heap.size w3.heap.size 1 (k + 1) (.slice pv (k + 1) cv) _ _ _ _ _ xs rfl oB hlB hr1000 rfl yB ⟨rfl, rfl, rfl, rfl, rfl⟩ ?_; intro g7 c7 w7 o7 k7))
          have hnew : Hid (RowF w7 wr.heap.size n (.slice (some ⟨g7, 0, none⟩) (k + 2) c7) (frmL l) ∧ Chg [] wr w7) := Lib.hid (by
            obtain ⟨b1, b2⟩ := HBT.out
            have h1 := HPu.out w7 g7 c7 (by show w7.ownsRow _ _ _ _ _ (xs ++ [_, _, _, _, .slice _ (tailB l).length _]); rw [tailB_length]; exact o7) k7 b1
            have e1 : frmL l = frmA l k ++ [(2, k, tailB l)] := by unfold frmL; rw [hl, ← HKn.out]
            refine ⟨by rw [e1]; exact h1, b2.trans k7 (fun x hx hl => ?_)⟩
            have h1 := (own_elem oB (show (Value.slice pv (k + 1) cv).ownBlock = some x by simpa using hx)).1
            omega)
          clear HPu HBT o7 k7 oB yB
          go_wp2_with fail
          have hF288 : (encS n l).length ≤ 288 := by rw [encS_length]; unfold nCh; omega
          have hFk : (encS n l).length = k + 2 := by rw [encS_length, hl, ← HKn.out]
          have hfl : (frmL l).length = k + 2 := by rw [frmL_length, hl, ← HKn.out]
          have HF := Lib.hid (And.intro hF288 (And.intro hFk hfl))
          clear hF288 hFk hfl m1 m2
          have HDv : Hid ((∃ ops1 vs1 gs1, (ops ≤ ops1 ∧ ops1 ≤ ops + 3 + (0 : Nat)) ∧ DevG w7 base N A c ops1 Z vs1 gs1 (putF zs a (encS n l) 0)) ∧ Dc lw w w7) := Lib.hid (by
            obtain ⟨hd, ho, hdc⟩ := HW.out
            refine ⟨⟨ops', vs', gs', by have := HE3.out; omega, ?_⟩, hdc.trans (Dc.of0 hnew.out.2)⟩
            rw [putF_zero, ← HE3.out]
            exact hd.keep hnew.out.2 (Av.nil _ _))
          clear HW
          go_loopw [15, 16, 17, 18, 90] (fun _ _ _ _ ix wy => ∃ q : Nat, q ≤ k + 2 ∧ ix = .int .i64 q ∧ RowF wy wr.heap.size n (.slice (some ⟨g7, 0, none⟩) (k + 2) c7) (frmL l) ∧ (∃ ops1 vs1 gs1, (ops ≤ ops1 ∧ ops1 ≤ ops + 3 + q) ∧ DevG wy base N A c ops1 Z vs1 gs1 (putF zs a (encS n l) q)) ∧ Dc lw w wy) (fun _ _ _ _ ix _ => k + 2 - (intOf ix).toNat)
          case atStart => exact ⟨0, Nat.zero_le _, rfl, hnew.out.1, HDv.out.1, HDv.out.2⟩
          case round =>
            obtain ⟨q, hq, rfl, hrw, ⟨ops1, vs1, gs1, hop, hd⟩, hdc⟩ := hrel
            rename World => wy
            by_cases hqk : q < k + 2
            · have hqf : q < (frmL l).length := by rw [HF.out.2.2]; exact hqk
              have hqe : q < (encS n l).length := by rw [HF.out.2.1]; exact hqk
              obtain ⟨g8, c8, pb, cb, ev, hc8, hgb, r0, r1, r2, r3, r4, hbb⟩ := hrw.get q hqf
              rw [HF.out.2.2] at ev hc8
              cases ev
              have hok := frmL_ok (l := l) (by omega) _ (List.getElem_mem hqf)
              have heq := encS_get (n := n) hqf hqe
              obtain ⟨kd, lb, bd, hf⟩ : ∃ kd lb bd, (frmL l)[q] = (kd, lb, bd) := ⟨_, _, _, rfl⟩
              rw [hf] at r0 r3 r4 hbb hok heq
              have kB : Chg [] wy (wy.alloc (.cells #[.int .i64 kd, .int .i64 0, .int .i64 n, .int .i64 lb, .slice pb bd.length cb] 282)) := Chg.alloc wy _
              have yB := heap_new wy (.cells #[.int .i64 kd, .int .i64 0, .int .i64 n, .int .i64 lb, .slice pb bd.length cb] 282)
              have m1 : decide ((q : Int) < ((k : Int) + 2)) = true := decide_eq_true (by omega)
              have m1' : decide ((q : Int) < ((k + 2 : Nat) : Int)) = true := decide_eq_true (by omega)
              have hS2 := hdc.heap HS.out (by decide)
              have HDd := Lib.hid (And.intro (hrw.keep kB (Av.nil _ _)) (And.intro (hd.keep kB (Av.nil _ _)) (And.intro (hdc.trans (Dc.of0 kB)) (And.intro hop heq))))
              have HEn := Lib.hid (fencode_any (wy.alloc (.cells #[.int .i64 kd, .int .i64 0, .int .i64 n, .int .i64 lb, .slice pb bd.length cb] 282)) (kind := kd) (epoch := 0) (seq := n) (lba := lb) (c := cb) (pa := pb) (body := bd) hok.1.1 (by have := hok.1.2; show kd ≤ 4; have : kd ≤ 3 := hok.1.2; omega) (by decide) hn (by have : lb ≤ 1000 := hok.2.1; omega) rfl hok.2.2 (hbb.bs.chg kB))
              have d0 := cell_is yB 0 rfl
              have d1 := cell_is yB 1 rfl
              have d2 := cell_is yB 2 rfl
              have d3 := cell_is yB 3 rfl
              have d4 := cell_is yB 4 rfl
              have HS2 := Lib.hid hS2
              have HOk := Lib.hid (show bd.length ≤ 40 from hok.2.2)
              clear hrw hd hdc hop hbb hgb heq hok hf kB yB hS2
              go_wp2_with fail
              refine HEn.out.mono ?_
              rintro e w8 ⟨g9, c9, rfl, k8, s8, b8, t8⟩
              have HX8 : Hid (RowF w8 wr.heap.size n (.slice (some ⟨g7, 0, none⟩) (k + 2) c7) (frmL l) ∧ DevG w8 base N A c ops1 Z vs1 gs1 (putF zs a (encS n l) q) ∧ Dc lw w w8 ∧ SlotG w8 S N inn tv cnt) := Lib.hid ⟨HDd.out.1.keep k8 (Av.nil _ _), HDd.out.2.1.keep k8 (Av.nil _ _), HDd.out.2.2.1.trans (Dc.of0 k8), (HDd.out.2.2.1.trans (Dc.of0 k8)).heap HS.out (by decide)⟩
              obtain ⟨qz, hqz⟩ : ∃ qz, qz = q / 96 := ⟨_, rfl⟩
              obtain ⟨zz, hzz⟩ : ∃ zz, zz = a + qz := ⟨_, rfl⟩
              have hz8 : zz < Z.length := by
                have := HI.out
                have h2 := HF.out.1
                rw [HF.out.2.1] at h2
                omega
              have hdd := HX8.out.2.1.keep (Chg.refl [] w8).drew (Av.nil _ _)
              have hzr : (putF zs a (encS n l) q zz).length < 96 := by
                rw [hzz, hqz, putF_len hqe HF.out.1]
                omega
              have HAp := Lib.hid (dappend_any w8.drew (cd := c9) hdd (by have := HDd.out.2.2.2.1; omega) (by have := HDd.out.2.2.2.1; have h2 := HF.out.1; rw [HF.out.2.1] at h2; omega) zz hz8 hzr (b8.chg (Chg.refl [] w8).drew) (encF_length kd 0 n lb bd HOk.out) (fun g hg => by subst hg; obtain ⟨cs, hh⟩ := t8; exact heap_ne hh HX8.out.2.1.hdr (by simp)) HB.out.2.2.2)
              have e0 : w8.cell? ⟨S, 0, none⟩ = some (.pointer (some ⟨N, 0, none⟩)) := cell_is HX8.out.2.2.2 0 rfl
              have e4 : w8.cell? ⟨S, 4, none⟩ = some (.int .i64 96) := cell_is HX8.out.2.2.2 4 rfl
              have eA : w8.cell? ⟨S, 1 + i, none⟩ = some (.int .i64 a) := by
                rcases HI.out with ⟨rfl, rfl⟩ | ⟨rfl, rfl⟩
                · exact cell_is HX8.out.2.2.2 1 rfl
                · exact cell_is HX8.out.2.2.2 2 rfl
              have q1 : (q : Int).tdiv 96 = (qz : Int) := by rw [Int.tdiv_eq_ediv_of_nonneg (by omega)]; omega
              have q3 : IntKind.i64.wrap ((a : Int) + (qz : Int)) = (zz : Int) := by rw [IntKind.wrap_i64]; omega
              have q2 : IntKind.i64.wrap (qz : Int) = (qz : Int) := by rw [IntKind.wrap_i64]; omega
              have hqz6 : qz ≤ 6 := by omega
              have HZz := Lib.hid (And.intro (show zz = a + q / 96 by omega) hz8)
              have hUt : ∀ y ∈ N :: Z[zz] :: (vs1 zz).ownBlock.toList, y = N ∨ y ∈ Z ∨ ∃ j, j < 8 ∧ (vs1 j).ownBlock = some y := fun y hy => by
                rcases List.mem_cons.1 hy with h | hy
                · exact Or.inl h
                · rcases List.mem_cons.1 hy with h | hy
                  · exact Or.inr (Or.inl (h ▸ List.getElem_mem hz8))
                  · exact Or.inr (Or.inr ⟨zz, by omega, by simpa using hy⟩)
              have HUt := Lib.hid hUt
              have kdr := (Chg.refl [] w8).drew.mono (T := N :: Z[zz] :: (vs1 zz).ownBlock.toList) (fun x hx _ => by cases hx)
              have hnS : S ∉ N :: Z[zz] :: (vs1 zz).ownBlock.toList := fun hm => by
                rcases hUt S hm with rfl | h2 | ⟨j, hj, h2⟩
                · exact heap_ne HX8.out.2.2.2 HX8.out.2.1.hdr (by simp) rfl
                · obtain ⟨y, hy, rfl⟩ := List.getElem_of_mem h2
                  exact heap_ne HX8.out.2.2.2 (HX8.out.2.1.zone y hy) (by simp) rfl
                · obtain ⟨cs, hh⟩ := (HX8.out.2.1.rows j hj).block S h2
                  exact heap_ne HX8.out.2.2.2 hh (by simp) rfl
              have HnS := Lib.hid hnS
              clear hdd s8 b8 t8 HEn hzr hqz hzz hUt hnS
              go_wp2_with fail
              go_region_held3 (fun wx => wx.cell? ⟨S, 0, none⟩ = some (.pointer (some ⟨N, 0, none⟩)) ∧ wx.cell? ⟨S, 1 + i, none⟩ = some (.int .i64 a) ∧ wx.cell? ⟨S, 4, none⟩ = some (.int .i64 96))
                (first
                  | (exact ⟨e0, eA, e4⟩)
                  | (exact ⟨kc.cell e0 HnS.out, kc.cell eA HnS.out, kc.cell e4 HnS.out⟩))
                (first
                  | (go_at_call 136; refine HAp.out.mono ?_; rintro e w9 ⟨v', rfl, kc', dc, -⟩; have kc := kdr.then kc'))
              have hnw : Hid (RowF w9 wr.heap.size n (.slice (some ⟨g7, 0, none⟩) (k + 2) c7) (frmL l) ∧ (∃ ops2 vs2 gs2, (ops ≤ ops2 ∧ ops2 ≤ ops + 3 + (q + 1 : Nat)) ∧ DevG w9 base N A c ops2 Z vs2 gs2 (putF zs a (encS n l) (q + 1))) ∧ Dc lw w w9) := Lib.hid (by
                have dc2 : DevG w9 base N A c (ops1 + 1) Z (upF vs1 zz v') gs1 (putF zs a (encS n l) (q + 1)) := by
                  rw [← putF_succ hqe HF.out.1, ← HZz.out.1, HDd.out.2.2.2.2]
                  exact dc
                refine ⟨HX8.out.1.keep kc (fun x hx cs t fr hh hm => ?_), ⟨ops1 + 1, _, _, by have := HDd.out.2.2.2.1; omega, dc2⟩, HX8.out.2.2.1.trans (Dc.dev HX8.out.2.1 kc HB.out.1 HB.out.2.1 HB.out.2.2.1 HUt.out)⟩
                · rcases HUt.out x hx with rfl | h2 | ⟨j, hj, h2⟩
                  · rw [HX8.out.2.1.hdr] at hh; cases hh; simp at hm
                  · obtain ⟨y, hy, rfl⟩ := List.getElem_of_mem h2
                    rw [HX8.out.2.1.zone y hy] at hh; cases hh; simp at hm
                  · obtain ⟨cs2, h3⟩ := (HX8.out.2.1.rows j hj).block x h2
                    rw [h3] at hh; cases hh; simp at hm)
              have hk288 : k + 2 ≤ 288 := by omega
              clear kc' kc dc HAp e0 e4 eA q1 q2 q3
              go_wp2_with fail
              exact ⟨⟨q + 1, by omega, by go_num, hnw.out⟩, by simp [intOf]; omega⟩
            · have hqe : q = k + 2 := by omega
              subst hqe
              have hS2 := hdc.heap HS.out (by decide)
              have e0 : wy.cell? ⟨S, 0, none⟩ = some (.pointer (some ⟨N, 0, none⟩)) := cell_is hS2 0 rfl
              have m1 : decide (((k + 2 : Nat) : Int) < ((k + 2 : Nat) : Int)) = false := decide_eq_false (by omega)
              have HFl := Lib.hid (dflush_any wy hd (by omega) (by omega))
              have HX := Lib.hid (And.intro hd (And.intro hop hdc))
              clear hrw hd hop hdc hS2
              go_wp2_with fail
              refine HFl.out.mono ?_
              rintro e w9 ⟨rfl, k9, d9⟩
              go_wp2_with fail
              go_ret
              obtain ⟨hd, hop, hdc⟩ := HX.out
              refine ⟨rfl, ops1 + 1, by omega, ⟨_, by rw [HF.out.2.1]; exact d9.good⟩, hdc.trans (Dc.dev hd k9 HB.out.1 HB.out.2.1 HB.out.2.2.1 (fun y hy => ?_))⟩
              rcases List.mem_cons.1 hy with h | h
              · exact Or.inl h
              · exact Or.inr (Or.inl h)
end Go.Proofs.YtelakcjbknbehaaGreat
