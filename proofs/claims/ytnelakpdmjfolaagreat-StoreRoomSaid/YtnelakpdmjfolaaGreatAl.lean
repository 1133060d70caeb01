/- The statement StoreRoom: however many blocks are written, a commit that finds no room finds it behind checkpoints and cleanings; for every input that can be read. Printed by mkXg.py. -/
import Derived.Deep.RegionHeld3
import Derived.Test.YtnelakpdmjfolaaGreatRows
import Derived.ProofKit
import Derived.OpenShut
import Derived.Lib.SlBytesRowKit
import Derived.Lib.SmallJoins
import Derived.Deep.Slices
import Derived.Deep.Fields
import Derived.ChangeMaps5
import Derived.Test.YtnelakpdmjfolaaGreatAb
import Derived.Test.YtnelakpdmjfolaaGreatAc
import Derived.Test.YtnelakpdmjfolaaGreatAd
import Derived.Test.YtnelakpdmjfolaaGreatAe
import Derived.Test.YtnelakpdmjfolaaGreatAg
import Derived.Test.YtnelakpdmjfolaaGreatAh
import Derived.Test.YtnelakpdmjfolaaGreatAj
import Derived.Test.YtnelakpdmjfolaaGreatAk
namespace Go.Proofs.YtnelakpdmjfolaaGreat
open Go.RowKit Go.Lib

/-- nothing below lw has changed. -/
def Kp (lw : Nat) (w w' : World) : Prop := ∃ U, Chg U w w' ∧ ∀ x ∈ U, x < w.heap.size → lw ≤ x
theorem Kp.of_chg {lw : Nat} {w w' : World} (h : Chg [] w w') : Kp lw w w' := ⟨[], h, fun x hx => by cases hx⟩
theorem Kp.of_chg1 {lw x : Nat} {w w' : World} (h : Chg [x] w w') (hx : lw ≤ x) : Kp lw w w' := ⟨[x], h, fun y hy _ => by rw [List.mem_singleton] at hy; omega⟩
theorem Kp.trans {lw : Nat} {a b c : World} (h : Kp lw a b) (k : Kp lw b c) : Kp lw a c := by
  obtain ⟨S, h1, h2⟩ := h
  obtain ⟨U, k1, k2⟩ := k
  refine ⟨S ++ U, (h1.mono (fun x hx _ => List.mem_append_left _ hx)).trans k1 (fun x hx _ => List.mem_append_right _ hx), fun x hx hlt => ?_⟩
  by_cases hT : x ∈ S
  · exact h2 x hT hlt
  · rcases List.mem_append.1 hx with h | h
    · exact absurd h hT
    · exact k2 x h (Nat.lt_of_lt_of_le hlt h1.size)
theorem Kp.size {lw : Nat} {w w' : World} (h : Kp lw w w') : w.heap.size ≤ w'.heap.size := by obtain ⟨U, h1, -⟩ := h; exact h1.size
theorem Kp.of_cs {lw : Nat} {w w' : World} (h : Cs lw w w') : Kp lw w w' := by obtain ⟨U, h1, h2⟩ := h; exact ⟨U, h1, fun x hx hl => (h2 x hx hl).1⟩
theorem Kp.of_ow {lw base : Nat} {w w' : World} (h : Ow base w w') (hb : lw ≤ base) : Kp lw w w' := by obtain ⟨U, h1, h2⟩ := h; exact ⟨U, h1, fun x hx _ => Nat.le_trans hb (h2 x hx).1⟩
theorem Kp.heap {lw : Nat} {w w' : World} (h : Kp lw w w') {x : Nat} {o : Obj} (hh : w.heap[x]? = some o) (hx : x < lw) : w'.heap[x]? = some o := by
  obtain ⟨U, h1, h2⟩ := h
  exact h1.heap hh (fun hm => by have := h2 x hm (heap_lt hh); omega)
theorem Kp.chg0 {lw : Nat} {w0 w w' : World} (h : Chg [] w0 w) (k : Kp lw w w') (hl : w0.heap.size ≤ lw) : Chg [] w0 w' := by
  obtain ⟨U, k1, k2⟩ := k
  exact h.trans k1 (fun x hx hlt => by have := k2 x hx (Nat.lt_of_lt_of_le hlt h.size); omega)
/-- what holds of a store's numbers behind j steps; its blocks are q. -/
structure Pln (s : Gs) (g : Gd) (q : Int → List UInt8) (j : Nat) : Prop where
  out : s.out = 0
  rd : s.rd = false
  lastv : s.lastv = s.last
  given : s.last ≤ s.given ∧ s.given ≤ j
  last : 0 ≤ s.last
  num : 0 ≤ s.num ∧ s.num ≤ j
  bl : 0 ≤ s.bl ∧ s.bl ≤ j
  old : ∀ b, ∀ x ∈ s.vs b, x.1 ≤ s.last
  small : ∀ b, (s.vs b).length ≤ j
  inn : g.inn = 1 ∨ g.inn = 0
  ops : 0 ≤ g.ops ∧ g.ops ≤ 400 * j + 10
  cnt : g.cnt ≤ j ∧ g.num ≤ j
  log : (g.zs 6).length = min g.pos 96 ∧ (g.zs 7).length = g.pos - 96 ∧ g.pos ≤ 192
  blk : ∀ b, 0 ≤ b → b < 258 → bytT (s.vs b) s.last = q b
/-- its queue is empty. -/
def QNil (w : World) (lw : Nat) (s : Gs) : Prop := ∃ pq cq, s.qv = .slice pq 0 cq ∧ w.ownsRow lw 3 1 (.slice pq 0 cq) 0 []
theorem QNil.chg {w w' : World} {S : List Nat} {lw : Nat} {s : Gs} (h : QNil w lw s) (hc : Chg S w w') (hS : ∀ x ∈ S, ∀ cs, w.heap[x]? ≠ some (.cells cs 3 (0, 0))) : QNil w' lw s := by
  obtain ⟨pq, cq, e, h1⟩ := h
  exact ⟨pq, cq, e, own_chgB h1 hc (fun g hg hm => by obtain ⟨-, cur, hh⟩ := own_elem h1 hg; exact hS g hm cur hh)⟩
structure Rst (w : World) (lw : Nat) (d : Ids) (s : Gs) (g : Gd) (q : Int → List UInt8) (j : Nat) : Prop where
  sto : Sto w lw d s g
  pl : Pln s g q j
  lb : s.Lb = []
  qn : QNil w lw s
  lw : lw ≤ w.heap.size
theorem Rst.keep {w w' : World} {lw j : Nat} {d : Ids} {s : Gs} {g : Gd} {q : Int → List UInt8} (h : Rst w lw d s g q j) (hc : Chg [] w w') : Rst w' lw d s g q j :=
  ⟨h.sto.keep hc, h.pl, h.lb, h.qn.chg hc (fun x hx => by cases hx), Nat.le_trans h.lw hc.size⟩
theorem Rst.new {w : World} {lw : Nat} {d : Ids} {ops : Int} (h : Sto w lw d (s00 lw) (g00 lw ops)) (ho : 0 ≤ ops ∧ ops ≤ 2) (hl : lw ≤ w.heap.size) : Rst w lw d (s00 lw) (g00 lw ops) (fun _ => zeroB) 0 :=
  ⟨h, ⟨rfl, rfl, rfl, ⟨Int.le_refl _, Int.le_refl _⟩, Int.le_refl _, ⟨Int.le_refl _, Int.le_refl _⟩, ⟨Int.le_refl _, Int.le_refl _⟩, fun b x hx => (by cases hx), fun b => Nat.le_refl _, Or.inl rfl, ⟨ho.1, by show ops ≤ _; omega⟩, ⟨Nat.le_refl _, Nat.le_refl _⟩, ⟨rfl, rfl, Nat.zero_le _⟩, fun b _ _ => rfl⟩, rfl, ⟨none, 0, rfl, World.ownsRow_nil _ _ _ _⟩, hl⟩
/-- a store with one transaction that is open: the blocks it sees are q, its buffer L. -/
structure Opn (w : World) (lw : Nat) (d : Ids) (s : Gs) (g : Gd) (q0 : Int → List UInt8) (j base : Nat) (q : Int → List UInt8) (L : List (Int × Value)) : Prop where
  pl : Pln s g q0 j
  lb : s.Lb = []
  qn : QNil w lw s
  low : lw ≤ base ∧ lw ≤ w.heap.size ∧ lw ≤ d.T
  lt : d.rx < base ∧ d.rb < base ∧ d.r < base
  su : Su w base d (begP s) (StoF lw d (begS s d.T) g) q L 0
theorem Opn.fr {w : World} {lw base j : Nat} {d : Ids} {s : Gs} {g : Gd} {q0 q : Int → List UInt8} {L : List (Int × Value)} (h : Opn w lw d s g q0 j base q L) : Fr base d (begP s) (StoF lw d (begS s d.T) g) :=
  fr_sto h.lt ((getL_put _ _ _ _).trans (if_pos rfl)) rfl rfl rfl rfl
theorem Opn.step {w w' : World} {lw base j : Nat} {d : Ids} {s : Gs} {g : Gd} {q0 q q' : Int → List UInt8} {L L' : List (Int × Value)} (h : Opn w lw d s g q0 j base q L) (ho : Ow base w w') (hm : Su w' base d (begP s) (StoF lw d (begS s d.T) g) q' L' 0) : Opn w' lw d s g q0 j base q' L' := by
  refine ⟨h.pl, h.lb, ?_, ⟨h.low.1, Nat.le_trans h.low.2.1 ho.size, h.low.2.2⟩, h.lt, hm⟩
  obtain ⟨T, h1, h2⟩ := ho
  exact h.qn.chg h1 (fun x hx cs hh => absurd ((h2 x hx).2 _ _ _ hh) (by decide))
theorem Opn.keep {w w' : World} {lw base j : Nat} {d : Ids} {s : Gs} {g : Gd} {q0 q : Int → List UInt8} {L : List (Int × Value)} (h : Opn w lw d s g q0 j base q L) (hc : Chg [] w w') : Opn w' lw d s g q0 j base q L :=
  h.step (Ow.of_chg hc) (h.su.keep h.fr hc)
theorem rbegin (w : World) {lw j : Nat} {d : Ids} {s : Gs} {g : Gd} {q : Int → List UInt8} (h : Rst w lw d s g q j) (hj : j ≤ 100000) :
    Calls Tryz.prog 9 #[.pointer (some ⟨d.P, 0, none⟩)] w fun e w' => e = .returned (.tuple #[.int .i64 (s.bl + 1), .int .i64 0]) ∧ ∃ d', (d'.P = d.P ∧ d'.N = d.N) ∧ Opn w' lw d' s g q j w.heap.size q [] ∧ Kp lw w w' := by
  have hp := h.pl
  have h1 := hp.last
  have h3 := hp.given
  have h2 := hp.bl
  refine (sbegin_q w h.sto h.lb h1 (by omega) h2.1 (by omega)).mono ?_
  rintro e w' ⟨rfl, ⟨T, W, rw, Q, V, cs, hT, hSu⟩, kB⟩
  have hm := h.sto.mx
  refine ⟨rfl, { d with T := T, W := W, rw := rw, Q := Q, V := V }, ⟨rfl, rfl⟩, ⟨hp, h.lb, h.qn.chg kB (fun x hx cs hh => ?_), ⟨h.lw, Nat.le_trans h.lw cs.size, Nat.le_trans h.lw hT⟩, ⟨hm.ver.m.lt, hm.book.2.lt, hm.map.lt⟩, hSu.congr hp.blk⟩, Kp.of_cs cs⟩
  simp only [List.mem_cons, List.not_mem_nil, or_false] at hx
  rcases hx with rfl | rfl | rfl
  · rw [hm.book.1] at hh; cases hh
  · exact map_cells hm.book.2 hh rfl
  · exact map_cells hm.map hh rfl
theorem rwrite (w : World) {lw j base m E eo cp : Nat} {d : Ids} {s : Gs} {g : Gd} {q0 q : Int → List UInt8} {L : List (Int × Value)} {l : List (Int × List UInt8)} (h : Opn w lw d s g q0 j base q L) (hp : PutsW w E eo l) (hn : l.length = m) (h0 : 0 < m) (hd : (l.map Prod.fst).Nodup) (hk : ∀ p ∈ l, 0 ≤ p.1 ∧ p.1 < 258) (hroom : L.length + m ≤ 16) :
    Calls Tryz.prog 12 #[.pointer (some ⟨d.P, 0, none⟩), .int .i64 (s.bl + 1), .slice (some ⟨E, eo, none⟩) m cp] w fun e w' => e = .returned (.int .i64 0) ∧ Kp lw w w' ∧ ∃ L', Opn w' lw d s g q0 j base (putA q l) L' ∧ 0 < L'.length ∧ L'.length ≤ L.length + m := by
  refine (swrite_many w (p := begP s) (cp := cp) h.fr h.su hp hn h0 hd hk hroom).mono ?_
  rintro e w' ⟨L', rfl, ho, hs, h1, h2⟩
  exact ⟨rfl, Kp.of_ow ho h.low.1, L', h.step ho hs, h1, h2⟩
/-- a store with one transaction that waits: its blocks will be q. -/
structure Wai (w : World) (lw : Nat) (d : Ids) (s : Gs) (g : Gd) (q0 : Int → List UInt8) (j : Nat) (q : Int → List UInt8) (m : Nat) : Prop where
  pl : Pln s g q0 j
  lb : s.Lb = []
  low : lw ≤ w.heap.size ∧ lw ≤ d.T
  tx : ∃ gq cq L, ∃ k : Nat, Sto w lw d (comS (begS s d.T) gq cq) g ∧ Wtx w d (comS (begS s d.T) gq cq) gq cq (s.bl + 1) k s.last s.last L q ∧ (k : Int) = s.given + 1 ∧ L.length ≤ m ∧
    (∀ b, 0 ≤ b → b < 258 → bytT (applyV s.vs k (putsL L q) b) k = q b)
theorem Wai.keep {w w' : World} {lw j m : Nat} {d : Ids} {s : Gs} {g : Gd} {q0 q : Int → List UInt8} (h : Wai w lw d s g q0 j q m) (hc : Chg [] w w') : Wai w' lw d s g q0 j q m := by
  obtain ⟨gq, cq, L, k, h1, h2, h3⟩ := h.tx
  exact ⟨h.pl, h.lb, ⟨Nat.le_trans h.low.1 hc.size, h.low.2⟩, gq, cq, L, k, h1.keep hc, h2.keep hc, h3⟩
theorem rcommit (w : World) {lw base j m : Nat} {d : Ids} {s : Gs} {g : Gd} {q0 q : Int → List UInt8} {L : List (Int × Value)} (h : Opn w lw d s g q0 j base q L) (h0 : 0 < L.length) (hm : L.length ≤ m) (hm16 : m ≤ 16) (hj : j ≤ 100000) :
    Calls Tryz.prog 13 #[.pointer (some ⟨d.P, 0, none⟩), .int .i64 (s.bl + 1)] w fun e w' => e = .returned (.int .i64 0) ∧ Wai w' lw d s g q0 j q m ∧ Kp lw w w' := by
  have hS : Sto w lw d (begS s d.T) g := h.su.env
  have hp := h.pl
  have hl := hp.last
  have hg := hp.given
  obtain ⟨pq, cq, hq1, hq2⟩ := h.qn
  obtain ⟨k, hk⟩ : ∃ k : Nat, (k : Int) = s.given + 1 := ⟨(s.given + 1).toNat, by omega⟩
  have ho : OldV s.Lv s.vs s.last := ⟨hS.keys, hp.old⟩
  have hlow := h.low
  refine (scommit_sto w (p := begP s) (n := 0) (k := k) (loq := lw) (pq := pq) (cq := cq) h.fr h.su hq1 hq2 (by omega) (Nat.le_refl _) hp.rd ho (by show s.given + 1 = _; rw [hk]) (by show s.given < _; omega) (by show 0 ≤ s.given; omega) (by omega) h0 (by omega) ((getL_put _ _ _ _).trans (if_pos rfl)) (if_pos rfl) h.low.2.2).mono ?_
  rintro e w' ⟨rfl, gq, cq', k1, k2, k3⟩
  refine ⟨rfl, ⟨hp, h.lb, ⟨by have := k3.size; omega, h.low.2.2⟩, gq, cq', L, k, k1, k2, hk, hm, fun b b0 b1 => ?_⟩, Kp.of_cs k3⟩
  exact h.su.seen (k := k) (t := k) (Int.le_refl _) ho (by show s.last ≤ _; omega) b b0 b1
theorem applyV_or {L : List (Int × Value)} {D : Int → List UInt8} {vs : Int → List (Int × List UInt8)} {k : Int} (hn : (L.map Prod.fst).Nodup) (b : Int) : (b ∈ L.map Prod.fst ∧ applyV vs k (putsL L D) b = vs b ++ [(k, D b)]) ∨ applyV vs k (putsL L D) b = vs b := by
  have hp := sortI_perm (L.map Prod.fst)
  by_cases hb : b ∈ L.map Prod.fst
  · have hm : (b, D b) ∈ putsL L D := List.mem_map.2 ⟨b, hp.mem_iff.2 hb, rfl⟩
    have hnd : ((putsL L D).map Prod.fst).Nodup := by rw [putsL_fst]; exact hp.nodup_iff.2 hn
    exact Or.inl ⟨hb, applyV_mem hnd hm⟩
  · exact Or.inr (applyV_not (by rw [putsL_fst]; exact fun hm => hb (hp.mem_iff.1 hm)))
/-- what a flush leaves: with room the blocks are q, without room they are as they were. -/
def FlR (w' : World) (lw : Nat) (d : Ids) (s : Gs) (g : Gd) (q0 q : Int → List UInt8) (j m : Nat) (e : Ending) : Prop :=
  (e = .returned (.int .i64 0) ∧ ∃ s' dv k l, Rst w' lw d s' (doneT g dv k l) q (j + 1) ∧ s.last + 1 ≤ s'.last) ∨
  (e = .returned (.int .i64 9) ∧ 192 < g.pos + m + 1 ∧ ∃ s', Rst w' lw d s' g q0 (j + 1) ∧ s'.last = s.last)
theorem rflush (w : World) {lw j m : Nat} {d : Ids} {s : Gs} {g : Gd} {q0 q : Int → List UInt8} (h : Wai w lw d s g q0 j q m) (hj : j ≤ 2000) :
    Calls Tryz.prog 14 #[.pointer (some ⟨d.P, 0, none⟩)] w fun e w' => FlR w' lw d s g q0 q j m e ∧ Kp lw w w' := by
  obtain ⟨gq, cq, L, k, h1, h2, hk, hLm, hb⟩ := h.tx
  have hp := h.pl
  have hl := hp.last
  have hg := hp.given
  have hops := hp.ops
  have hcnt := hp.cnt
  have hnum := hp.num
  have hbl := hp.bl
  have hlog := hp.log
  have hlen := putsL_length L q
  have hnd := h2.buf.2.nodup
  have hL16 := h2.len
  have hsm : ∀ c, (s.vs c).length + 16 < 1000000 := fun c => by have := hp.small c; omega
  by_cases hpos : g.pos + L.length + 1 ≤ 192
  · refine (sflush_two w (k := k) h1 h2 hp.out h.low.2 h.low.1 (by omega) (by show s.lastv < _; rw [hp.lastv]; omega) (by omega) hsm hnum.1 (by show s.num ≤ _; omega) hlog.1 hlog.2.1 hpos hops.1 (by omega) (by omega) (by omega)).mono ?_
    rintro e w' ⟨rfl, z, Lv', dv, k1, k2, k3⟩
    have hor := fun b => applyV_or (D := q) (vs := s.vs) (k := k) hnd b
    have hzl := logZ_len (bl := batL g.cnt (g.num + 1) k (putsL L q)) hlog.1 hlog.2.1 ((putsL L q).length + 1) (by rw [batL_length]; exact Nat.le_refl _) (by rw [hlen]; omega)
    refine ⟨Or.inl ⟨rfl, _, dv, k, _, ⟨k1, ⟨rfl, hp.rd, rfl, ?_, ?_, ?_, ?_, fun b x hx => ?_, fun b => ?_, hp.inn, ?_, ?_, ?_, hb⟩, ?_, ⟨_, _, rfl, k3⟩, by have := k2.size; have := h.low; omega⟩, ?_⟩, Kp.of_cs k2⟩
    · show (k : Int) ≤ s.given + 1 ∧ s.given + 1 ≤ _
      omega
    · show 0 ≤ (k : Int)
      omega
    · show 0 ≤ s.num + 1 ∧ s.num + 1 ≤ _
      omega
    · show 0 ≤ s.bl + 1 ∧ s.bl + 1 ≤ _
      omega
    · have hx2 : x ∈ applyV s.vs k (putsL L q) b := hx
      show x.1 ≤ (k : Int)
      rcases hor b with ⟨-, e⟩ | e
      · rw [e] at hx2
        rcases List.mem_append.1 hx2 with hx3 | hx3
        · have := hp.old b x hx3; omega
        · rw [List.mem_singleton] at hx3; rw [hx3]; exact Int.le_refl _
      · rw [e] at hx2
        have := hp.old b x hx2; omega
    · show (applyV s.vs k (putsL L q) b).length ≤ _
      have := hp.small b
      rcases hor b with ⟨-, e⟩ | e
      · rw [e, List.length_append, List.length_singleton]; omega
      · rw [e]; omega
    · show 0 ≤ g.ops + ((putsL L q).length : Int) + 2 ∧ g.ops + ((putsL L q).length : Int) + 2 ≤ _
      omega
    · show g.cnt ≤ _ ∧ g.num + 1 ≤ _
      omega
    · show (logZ g.zs g.pos (batL g.cnt (g.num + 1) k (putsL L q)) ((putsL L q).length + 1) 6).length = min (g.pos + (putsL L q).length + 1) 96 ∧ (logZ g.zs g.pos (batL g.cnt (g.num + 1) k (putsL L q)) ((putsL L q).length + 1) 7).length = g.pos + (putsL L q).length + 1 - 96 ∧ g.pos + (putsL L q).length + 1 ≤ 192
      rw [hzl.1, hzl.2]
      omega
    · show delL [(s.bl + 1, _)] (s.bl + 1) = []; simp [delL]
    · show s.last + 1 ≤ (k : Int)
      omega
  · refine (sflush_no w (k := k) h1 h2 hp.out h.low.2 h.low.1 (by omega) (by show s.lastv < _; rw [hp.lastv]; omega) (by omega) hsm hnum.1 (by show s.num ≤ _; omega) (by omega) hlog.2.2 (by omega) (by omega)).mono ?_
    rintro e w' ⟨rfl, z, k1, k2, k3⟩
    refine ⟨Or.inr ⟨rfl, by omega, _, ⟨k1, ⟨rfl, hp.rd, hp.lastv, ?_, hl, ?_, ?_, hp.old, fun b => ?_, hp.inn, ?_, ?_, hp.log, hp.blk⟩, ?_, ⟨_, _, rfl, k3⟩, by have := k2.size; have := h.low; omega⟩, rfl⟩, Kp.of_cs k2⟩
    · show s.last ≤ s.given + 1 ∧ s.given + 1 ≤ _
      omega
    · show 0 ≤ s.num ∧ s.num ≤ _
      omega
    · show 0 ≤ s.bl + 1 ∧ s.bl + 1 ≤ _
      omega
    · show (s.vs b).length ≤ _
      have := hp.small b
      omega
    · have := hp.ops; omega
    · have := hp.cnt; omega
    · show delL [(s.bl + 1, _)] (s.bl + 1) = []; simp [delL]
theorem nodup_258 (l : List Int) (hn : l.Nodup) (hk : ∀ x ∈ l, 0 ≤ x ∧ x < 258) : l.length ≤ 258 := by
  have := nodup_subK l ((List.range 258).map fun i : Nat => (i : Int)) hn (fun x hx => by
    have := hk x hx
    exact List.mem_map.2 ⟨x.toNat, List.mem_range.2 (by omega), by omega⟩)
  simpa using this
theorem Sto.lv {w : World} {lw : Nat} {d : Ids} {s : Gs} {g : Gd} (h : Sto w lw d s g) : s.Lv.length ≤ 258 := by
  have := nodup_258 (s.Lv.map Prod.fst) h.mx.ver.m.nodup (fun x hx => by
    obtain ⟨p, hp, rfl⟩ := List.mem_map.1 hx
    exact h.keys p hp)
  simpa using this
theorem rcheck (w : World) {lw j : Nat} {d : Ids} {s : Gs} {g : Gd} {q : Int → List UInt8} (h : Rst w lw d s g q j) (hj : j ≤ 1900) :
    Calls Tryz.prog 16 #[.pointer (some ⟨d.P, 0, none⟩)] w fun e w' => e = .returned (.int .i64 0) ∧ (∃ g', Rst w' lw d s g' q (j + 1) ∧ g'.pos = 0) ∧ Kp lw w w' := by
  have hp := h.pl
  have hl := hp.last
  have hg := hp.given
  obtain ⟨inn, i, a, hi, hinn⟩ : ∃ inn i a : Nat, ((inn = 1 ∧ i = 0 ∧ a = 0) ∨ (inn = 0 ∧ i = 1 ∧ a = 3)) ∧ g.inn = inn := by
    rcases hp.inn with e | e
    · exact ⟨1, 0, 0, Or.inl ⟨rfl, rfl, rfl⟩, e⟩
    · exact ⟨0, 1, 3, Or.inr ⟨rfl, rfl, rfl⟩, e⟩
  have hops := hp.ops
  have hcnt := hp.cnt
  refine (scheck_ok w (lst := s.last.toNat) h.sto hi hinn h.sto.lv (by omega) (by omega) hops.1 (by omega) (by omega) h.lw).mono ?_
  rintro e w' ⟨rfl, tv, ops, dv, gs, ho, k1, k2⟩
  refine ⟨rfl, ⟨_, ⟨k1, ⟨hp.out, hp.rd, hp.lastv, ⟨hg.1, by omega⟩, hl, ⟨hp.num.1, by have := hp.num.2; omega⟩, ⟨hp.bl.1, by have := hp.bl.2; omega⟩, hp.old, fun b => Nat.le_succ_of_le (hp.small b), ?_, ?_, ?_, ⟨rfl, rfl, Nat.zero_le _⟩, hp.blk⟩, h.lb, ?_, by have := k2.cs.size; have := h.lw; omega⟩, rfl⟩, Kp.of_cs k2.cs⟩
  · show (i : Int) = 1 ∨ (i : Int) = 0
    omega
  · show 0 ≤ ops ∧ ops ≤ _
    omega
  · show g.cnt + 1 ≤ _ ∧ 0 ≤ _
    omega
  · obtain ⟨U, u1, u2⟩ := k2
    obtain ⟨pq, cq, e, ho⟩ := h.qn
    refine ⟨pq, cq, e, own_chgB ho u1 (fun g hg hm => ?_)⟩
    obtain ⟨-, cur, hh⟩ := own_elem ho hg
    obtain ⟨-, cs, t, e1, e2⟩ := u2 g hm (heap_lt hh)
    rw [hh] at e1
    cases e1
    revert e2
    decide
theorem rclean (w : World) {lw j : Nat} {d : Ids} {s : Gs} {g : Gd} {q : Int → List UInt8} (h : Rst w lw d s g q j) :
    Calls Tryz.prog 17 #[.pointer (some ⟨d.P, 0, none⟩)] w fun e w' => (∃ n : Int, e = .returned (.int .i64 n)) ∧ (∃ s', Rst w' lw d s' g q j ∧ s'.last = s.last) ∧ Kp lw w w' := by
  have hp := h.pl
  refine (sclean_ok w h.sto h.lb).mono ?_
  rintro e w' ⟨hn, L', vs', k1, k2, k3, hc⟩
  refine ⟨hn, ⟨_, ⟨k1, ⟨hp.out, hp.rd, hp.lastv, hp.given, hp.last, hp.num, hp.bl, fun b x hx => hp.old b x ((hc b).sub.2 x hx), fun b => Nat.le_trans (hc b).sub.1 (hp.small b), hp.inn, hp.ops, hp.cnt, hp.log, fun b b0 b1 => ((hc b).2.2 _ (Int.le_refl _)).trans (hp.blk b b0 b1)⟩, h.lb, ?_, Nat.le_trans h.lw k3.size⟩, rfl⟩, Kp.of_cs k2⟩
  obtain ⟨pq, cq, e, ho⟩ := h.qn
  refine ⟨pq, cq, e, own_chgB ho k3 (fun g hg hm => ?_)⟩
  obtain ⟨-, cur, hh⟩ := own_elem ho hg
  rw [List.mem_singleton] at hm
  subst hm
  exact map_cells h.sto.mx.ver.m hh rfl
theorem rlast (w : World) {lw j : Nat} {d : Ids} {s : Gs} {g : Gd} {q : Int → List UInt8} (h : Rst w lw d s g q j) : Calls Tryz.prog 18 #[.pointer (some ⟨d.P, 0, none⟩)] w fun e w' => e = .returned (.int .i64 s.last) ∧ w = w' :=
  slast_ok w h.sto.store h.sto.mx.mgr
end Go.Proofs.YtnelakpdmjfolaaGreat
namespace Go.Proofs.YtnelakpdmjfolaaGreat
open Go.RowKit Go.Lib

theorem RowsC.at_ {w : World} {base : Nat} {v : Value} {l : List (List UInt8)} (h : RowsC w base v l) : RowsAt w base v l := by
  obtain ⟨xs, ho, hx⟩ := h
  refine ⟨xs, ho, fun i hi => ?_⟩
  obtain ⟨g, c, h1, -, h2⟩ := hx i hi
  exact ⟨g, c, h1, h2⟩
set_option maxRecDepth 100000 in
set_option maxHeartbeats 4000000 in
theorem zown_ok (w : World) {lo c n : Nat} {pa : Option Addr} {l : List (List UInt8)} (h : RowsAt w lo (.slice pa n c) l) (hn : l.length = n) (hn1 : n ≤ 1000) : Calls Tryz.prog 55 #[.slice pa n c] w fun e w' => ∃ v, e = .returned v ∧ Chg [] w w' ∧ RowsC w' w.heap.size v l := by
  have HP := Lib.hid h
  clear h
  go_enter Tryz.func55, Tryz.ntmps55
  go_wp2_with fail
  go_loopw [2, 4, 7] (fun v _ i wr => ∃ j : Nat, j ≤ n ∧ i = .int .i64 j ∧ Chg [] w wr ∧ RowsC wr w.heap.size v (l.take j)) (fun _ _ i _ => n - (intOf i).toNat)
  case atStart => exact ⟨0, by omega, rfl, Chg.refl _ _, by simpa using RowsC.nil _ _⟩
  case round =>
    obtain ⟨j, hj, rfl, kr, hrx⟩ := hrel
    by_cases hlt : j < n
    · have hjl : j < l.length := by omega
      obtain ⟨ga, ca, gd, cd, hv, hca, r0, hb, h64, -, -⟩ := (HP.out.keep kr (Av.nil _ _) (fun _ _ => by simp)).at2 j hjl
      have hpa : pa = some ⟨ga, 0, none⟩ ∧ n ≤ c := by
        injection hv with e1 e2 e3
        exact ⟨e1, by omega⟩
      obtain ⟨rfl, hnc⟩ := hpa
      have HC := Lib.hid (clone_btc wr (D := gd) (o := 0) (c := cd) (m := 64) h64 (by decide) (by decide) hb)
      have HX := Lib.hid (And.intro kr hrx)
      have H64 := Lib.hid h64
      have hji : (j : Int) < n := by omega
      clear kr hrx hb h64 hv
      go_wp2_with fail
      refine HC.out.mono ?_
      rintro e w2 ⟨g, c', rfl, k2, b2, hg2, t2, c64⟩
      obtain ⟨kr, hrx⟩ := HX.out
      obtain ⟨xs, ho, hxs⟩ := hrx.keep0 k2
      have hjt : (l.take j).length = j := by simp; omega
      rw [hjt] at ho
      obtain ⟨pv, cv, rfl, -⟩ := own_form ho
      have ka : Chg [] w2 (w2.alloc (.cells #[.slice (some ⟨g, 0, none⟩) 64 c'] 38)) := Chg.alloc w2 _
      have ya := heap_new w2 (.cells #[.slice (some ⟨g, 0, none⟩) 64 c'] 38)
      have oa := own_keep ho ka.below0
      have hk2 := k2.size
      have hkr := kr.size
      have hba : w.heap.size ≤ (w2.alloc (.cells #[.slice (some ⟨g, 0, none⟩) 64 c'] 38)).heap.size := by have := ka.size; omega
      have H2 := Lib.hid (And.intro (kr.then k2) (And.intro b2 (And.intro t2 (And.intro c64 (And.intro hxs ho)))))
      clear kr hrx k2 b2 t2 c64 hxs ho HX HC
      go_wp2_with (first | (at_builtin; refine wpList_append_bk rfl (.tmp 11) (.tmp 14) rfl w.heap.size (.slice pv j cv) j xs rfl oa w2.heap.size 1 _ rfl (cell_is ya 0 rfl) rfl (by omega) hba ?_; intro g5 c5 w5 o5 k5 i5))
      obtain ⟨k2, b2, t2, c64, hxs, ho⟩ := H2.out
      have hfin : Chg [] w w5 ∧ RowsC w5 w.heap.size (.slice (some ⟨g5, 0, none⟩) (j + 1) c5) (l.take (j + 1)) := by
        refine ⟨(k2.then ka).trans k5 (fun x hx hl => ?_), ?_⟩
        · obtain ⟨hge, -⟩ := own_elem oa (show (Value.slice pv j cv).ownBlock = some x by simpa using hx)
          omega
        · rw [List.take_succ_eq_append_getElem hjl]
          have hp := RowsC.push (w := w2.alloc (.cells #[.slice (some ⟨g, 0, none⟩) 64 c'] 38)) (w' := w5) (base := w.heap.size) (g := g5) (gb := g) (cb := c') (cap := c5) (v := .slice pv j cv) (l := l.take j) (b := l[j]) (xs := xs)
            (fun i hi => by obtain ⟨g', c'', e1, e2, e3, e4, e5⟩ := hxs i hi; exact ⟨g', c'', e1, e2, e3.chg ka, e4, e5.keep ka (by simp)⟩)
            (by rw [hjt]; have := ho.1; omega) (fun g' hg' => (own_elem oa hg').2) (by rw [hjt]; exact o5) k5 (b2.chg ka) H64.out (t2.keep ka (by simp)) c64
          rw [hjt] at hp
          exact hp
      have HF := Lib.hid hfin
      clear hfin k2 b2 t2 c64 hxs ho ka ya oa o5 k5 i5
      go_wp2_with fail
      go_roundw
      case rel => exact ⟨j + 1, hlt, by go_num, HF.out⟩
      case measure => simp [intOf]; omega
    · obtain rfl : j = n := by omega
      rw [List.take_of_length_le (by omega)] at hrx
      go_wp2_with fail
      go_ret
      exact ⟨_, rfl, kr, hrx⟩
/-- what pick answers. -/
def PickOk (pv : Value) (w : World) : Prop := ∀ w2, Chg [] w w2 → ∀ k : Nat, k < 8 → Calls Tryz.prog 53 #[pv, .int .i64 k] w2 fun e w' => ∃ x b, e = .returned (.tuple #[.int .i64 x, .bool b]) ∧ w2 = w'
set_option maxRecDepth 100000 in
theorem pick_nil (w : World) : PickOk (.slice none 0 0) w := by
  intro w2 _ k _
  go_enter Tryz.func53, Tryz.ntmps53
  go_wp2_with fail
  go_ret2
  exact ⟨0, false, rfl, rfl⟩
set_option maxRecDepth 100000 in
theorem rest_one (w : World) (x : Int) : Calls Tryz.prog 54 #[.int .i64 x, .int .i64 1] w fun e w' => e = .returned (.int .i64 0) ∧ w = w' := by
  go_enter Tryz.func54, Tryz.ntmps54
  go_wp2_with fail
  go_ret
  exact ⟨rfl, rfl⟩
/-- a zone is laid anew. -/
theorem DevG.lay {w : World} {base N A c : Nat} {ops : Int} {Z : List Nat} {vs : Nat → Value} {gs : Nat → Nat} {zs : Nat → List (List UInt8)} (h : DevG w base N A c ops Z vs gs zs) {j : Nat} (hj : j < Z.length) {v' : Value} {l' : List (List UInt8)} (hr : RowsAt w base v' l')
    (hap : ∀ g, v'.ownBlock = some g → ∀ i, i < 8 → i ≠ j → (vs i).ownBlock ≠ some g) : DevG ((w.setCell ⟨Z[j], 0, none⟩ v').setCell ⟨Z[j], 1, none⟩ (.int .i64 (l'.length : Nat))) base N A c ops Z (upF vs j v') (upF gs j l'.length) (upF zs j l') := by
  have hc : Chg [Z[j]] w ((w.setCell ⟨Z[j], 0, none⟩ v').setCell ⟨Z[j], 1, none⟩ (.int .i64 (l'.length : Nat))) := (Chg.set w Z[j] 0 v').then (Chg.set _ Z[j] 1 _)
  have hzj := h.zone j hj
  have ht : ∀ {g : Nat} {cs : Array Value} {t : TypeId}, w.heap[g]? = some (.cells cs t (0, 0)) → t ≠ 64 → g ∉ [Z[j]] := by
    intro g cs t hg h1 hm
    rw [List.mem_singleton] at hm
    subst hm
    rw [hzj] at hg; cases hg; exact h1 rfl
  have keepR : ∀ {v l}, RowsAt w base v l → RowsAt ((w.setCell ⟨Z[j], 0, none⟩ v').setCell ⟨Z[j], 1, none⟩ (.int .i64 (l'.length : Nat))) base v l := fun {v l} hh => hh.keep hc (Av.row hzj (by simp)) (fun g hg => by
    obtain ⟨cs, hb⟩ := hh.block g hg
    exact ht hb (by decide))
  obtain ⟨cA, hA⟩ := h.tA
  refine ⟨hc.heap h.hdr (ht h.hdr (by decide)), h.cap, h.len, ⟨cA, hc.heap hA (ht hA (by decide))⟩, fun k hk => hc.cell (h.ptr k hk) (ht hA (by decide)), fun k hk => ?_, fun k hk => ?_, fun i k g hi hk hik hg => ?_, h.nodup⟩
  · by_cases hkj : k = j
    · subst hkj
      simpa [upF] using heap_set (heap_set hzj 0 v' rfl) 1 (.int .i64 (l'.length : Nat)) rfl
    · simpa [upF, hkj] using hc.heap (h.zone k hk) (by simpa using nodup_ne h.nodup hk hj hkj)
  · by_cases hkj : k = j
    · subst hkj
      simpa [upF] using keepR hr
    · simpa [upF, hkj] using keepR (h.rows k hk)
  · by_cases hij : i = j
    · subst hij
      rw [show upF vs i v' i = v' by simp [upF]] at hg
      rw [show upF vs i v' k = vs k by simp [upF, hik.symm]]
      exact hap g hg k hk hik.symm
    · rw [show upF vs j v' i = vs i by simp [upF, hij]] at hg
      by_cases hkj : k = j
      · subst hkj
        rw [show upF vs k v' k = v' by simp [upF]]
        intro e
        exact hap g e i hi hij hg
      · rw [show upF vs j v' k = vs k by simp [upF, hkj]]
        exact h.apart i k g hi hk hik hg
/-- the first j zones. -/
def cutZ (zs : Nat → List (List UInt8)) (j : Nat) : Nat → List (List UInt8) := fun i => if i < j then zs i else []
theorem cutZ_succ (zs : Nat → List (List UInt8)) (j : Nat) : upF (cutZ zs j) j (zs j) = cutZ zs (j + 1) := by
  funext k
  unfold upF cutZ
  by_cases h : k = j
  · subst h; simp
  · rw [if_neg h]
    by_cases h2 : k < j
    · rw [if_pos h2, if_pos (by omega)]
    · rw [if_neg h2, if_neg (by omega)]
theorem cutG_succ (zs : Nat → List (List UInt8)) (j : Nat) : upF (fun i => (cutZ zs j i).length) j (zs j).length = fun i => (cutZ zs (j + 1) i).length := by
  funext k
  rw [← cutZ_succ]
  unfold upF
  split <;> rfl
/-- what a crash hands back. -/
def CrashR (w : World) (zs : Nat → List (List UInt8)) (e : Ending) (w' : World) : Prop :=
  ∃ N A c Z vs, e = .returned (.pointer (some ⟨N, 0, none⟩)) ∧ Chg [] w w' ∧ DevG w' w.heap.size N A c 0 Z vs (fun i => (cutZ zs 8 i).length) (cutZ zs 8) ∧ w.heap.size ≤ N ∧ w.heap.size ≤ A ∧ (∀ z ∈ Z, w.heap.size ≤ z)
set_option maxRecDepth 100000 in
set_option maxHeartbeats 8000000 in
theorem crash_ok (w : World) {base N A c : Nat} {ops rds : Int} {Z : List Nat} {vs : Nat → Value} {gs : Nat → Nat} {zs : Nat → List (List UInt8)} (hD : DevK w base N A c ops rds Z vs gs zs) (hg : ∀ j, j < 8 → gs j = (zs j).length) (hlen : ∀ j, j < 8 → (zs j).length ≤ 96) {pv tv : Value} (hp : PickOk pv w) (ht : PickOk tv w) :
    Calls Tryz.prog 19 #[.pointer (some ⟨N, 0, none⟩), pv, tv] w (CrashR w zs) := by
  have HG := Lib.hid (kgone w hD)
  have n0 : w.cell? ⟨N, 0, none⟩ = some (.int .i64 8) := cell_is hD.hdr 0 rfl
  have n1 : w.cell? ⟨N, 1, none⟩ = some (.int .i64 96) := cell_is hD.hdr 1 rfl
  have HD := Lib.hid hD
  have HP := Lib.hid hp
  have HT := Lib.hid ht
  have HE := Lib.hid hg
  have HL := Lib.hid hlen
  clear hD hp ht hg hlen
  go_enter Tryz.func19, Tryz.ntmps19
  go_wp2_with fail
  refine HG.out.mono ?_
  rintro e w1 ⟨rfl, rfl⟩
  go_wp2_with fail
  refine (new_any2 w).mono ?_
  rintro e w1 ⟨N', A', c', Z', rfl, k1, hD1, hO, lN, lA, lZ, hAx, hZn⟩
  have hG0 : DevG w1 w.heap.size N' A' c' 0 Z' (fun _ => .slice none 0 0) (fun i => (cutZ zs 0 i).length) (cutZ zs 0) := by
    have e : cutZ zs 0 = fun _ => [] := by funext i; simp [cutZ]
    rw [e]
    exact ⟨hD1.1, hD1.2.1, hD1.2.2.1, hAx, hD1.2.2.2.1, hD1.2.2.2.2, fun _ _ => RowsAt.nil w1 _, fun _ _ _ _ _ _ e => by simp [Value.ownBlock] at e, hZn⟩
  have m2' : w.cell? ⟨N, 2, none⟩ = some (.slice (some ⟨A, 0, none⟩) 8 c) := cell_is HD.out.hdr 2 rfl
  have m2 := k1.cell m2' (by simp)
  have HI := Lib.hid (And.intro lN (And.intro lA lZ))
  have hcap : (8 : Int) ≤ c := by have := HD.out.cap; omega
  clear hD1 hO hAx hZn lN lA lZ n0 n1 HG
  go_wp2_with fail
  go_loopw [33] (fun i wr => ∃ j : Nat, ∃ vs', i = .int .i64 j ∧ j ≤ 8 ∧ Chg [] w wr ∧ DevG wr w.heap.size N' A' c' 0 Z' vs' (fun i => (cutZ zs j i).length) (cutZ zs j)) (fun i _ => 8 - (intOf i).toNat)
  case atStart => exact ⟨0, _, rfl, by omega, k1, hG0⟩
  case round =>
    obtain ⟨j, vs', rfl, hj, kr, hG⟩ := hrel
    by_cases hlt : j < 8
    · have hDr := HD.out.keep kr (Av.nil _ _)
      have hjz : j < Z.length := by have := hDr.len; omega
      have hjz' : j < Z'.length := by have := hG.len; omega
      have a0 := hDr.ptr j hjz
      have k0 := hDr.zone j hjz
      have hrows := hDr.rows j hlt
      obtain ⟨pa, cc, hv, hcc⟩ : ∃ pa cc, vs j = .slice pa (zs j).length cc ∧ (zs j).length ≤ cc := by
        obtain ⟨xs, ho, -⟩ := hDr.rows j hlt
        exact own_form ho
      rw [hv] at k0 hrows
      have b0 : wr.cell? ⟨Z[j], 0, none⟩ = some (.slice pa (zs j).length cc) := cell_is k0 0 rfl
      have b1 : wr.cell? ⟨Z[j], 1, none⟩ = some (.int .i64 (zs j).length) := by
        have := cell_is k0 1 (v := .int .i64 (gs j : Nat)) rfl
        rwa [HE.out j hlt] at this
      have HO := Lib.hid (fun wx (kx : Chg [] wr wx) => zown_ok wx (hrows.keep kx (Av.nil _ _) (fun _ _ => by simp)) rfl (by have := HL.out j hlt; omega))
      have h96 : (zs j).length ≤ 96 := HL.out j hlt
      have hji : (j : Int) < 8 := by omega
      have HGr := Lib.hid (And.intro kr hG)
      have kd : Chg [] wr wr.drew := (Chg.refl [] wr).drew
      have b0d : wr.drew.cell? ⟨Z[j], 0, none⟩ = some (.slice pa (zs j).length cc) := b0
      have b1d : wr.drew.cell? ⟨Z[j], 1, none⟩ = some (.int .i64 (zs j).length) := b1
      have krd := kr.then kd
      have m2r := kr.cell m2' (by simp)
      clear hDr hrows k0 hv kr hG
      generalize hZZ : Z[j] = z at *
      go_upto_region 7 with fail
      go_region_law (fail)
      all_goals
        have HKd := Lib.hid (And.intro kd krd)
        clear kd krd
        go_wp2_with fail
        refine (HP.out _ HKd.out.2 j hlt).mono ?_
        rintro e w2 ⟨x, b, rfl, rfl⟩
        cases b
        all_goals
          go_wp2_with (first | (go_at_call 54; refine (rest_one _ x).mono ?_; rintro e w2 ⟨rfl, rfl⟩))
          refine (HO.out _ HKd.out.1).mono ?_
          rintro e w3 ⟨v3, rfl, k3, r3⟩
          obtain ⟨xs3, ho3, -⟩ := id r3
          obtain ⟨p3, c3, rfl, -⟩ := own_form ho3
          have kk3 := HKd.out.1.then k3
          have hG3 := HGr.out.2.keep kk3 (Av.nil _ _)
          obtain ⟨pz, cz, hvz⟩ := (hG3.rows j hlt).len
          have hz3 := hG3.zone j hjz'
          rw [hvz] at hz3
          have n2 : w3.cell? ⟨N', 2, none⟩ = some (.slice (some ⟨A', 0, none⟩) 8 c') := cell_is hG3.hdr 2 rfl
          have na := hG3.ptr j hjz'
          have hc8 := hG3.cap
          have z0 := cell_is hz3 0 rfl
          have z1 := cell_is hz3 1 rfl
          have f0 := unfrozen hz3 0
          have f1 := unfrozen hz3 1
          have hlay := hG3.lay hjz' (v' := .slice p3 (zs j).length c3) (l' := zs j) (r3.at_.base HGr.out.1.size) (fun g hg i hi hij e => by
            obtain ⟨h1, -⟩ := own_elem ho3 hg
            obtain ⟨cs, h2⟩ := (HGr.out.2.rows i hi).block g e
            have h3 := heap_lt h2
            have h4 := HKd.out.1.size
            omega)
          rw [cutG_succ, cutZ_succ] at hlay
          have hfin := ((HGr.out.1.then kk3).new_set (HI.out.2.2 _ (List.getElem_mem hjz')) 0 (.slice p3 (zs j).length c3)).new_set (HI.out.2.2 _ (List.getElem_mem hjz')) 1 (.int .i64 (zs j).length)
          have HF := Lib.hid (And.intro hfin hlay)
          have HTk := Lib.hid (HT.out _ (HGr.out.1.then kk3) j hlt)
          clear hlay hfin hz3 hG3 hvz k3 r3 ho3 kk3
          generalize hZ2 : Z'[j] = z2 at *
          go_wp2_with fail
          refine HTk.out.mono ?_
          rintro e w4 ⟨x2, b2, rfl, rfl⟩
          cases b2
          all_goals
            go_wp2_with fail
            go_roundw
            case rel => exact ⟨j + 1, _, by go_num, by omega, HF.out.1, HF.out.2⟩
            case measure => simp [intOf]; omega
    · obtain rfl : j = 8 := by omega
      go_wp2_with fail
      go_ret
      exact ⟨N', A', c', Z', vs', rfl, kr, hG, HI.out.1, HI.out.2.1, HI.out.2.2⟩
end Go.Proofs.YtnelakpdmjfolaaGreat
namespace Go.Proofs.YtnelakpdmjfolaaGreat
open Go.RowKit Go.Lib

set_option maxRecDepth 100000 in
theorem round251_any (w : World) (i : Int) : Calls Tryz.prog 81 #[.int .i64 i, .int .i64 251] w fun e w' => ∃ m : Nat, m < 251 ∧ e = .returned (.int .i64 m) ∧ w = w' := by
  have h1 : -251 < i.tmod 251 ∧ i.tmod 251 < 251 := by
    have := Int.tmod_lt_of_pos i (b := 251) (by omega)
    have := Int.lt_tmod_of_pos i (b := 251) (by omega)
    omega
  go_enter Tryz.func81, Tryz.ntmps81
  go_wp2_with fail
  · obtain ⟨m, hm⟩ : ∃ m : Nat, i.tmod 251 + 251 = m := ⟨(i.tmod 251 + 251).toNat, by omega⟩
    go_ret
    exact ⟨m, by omega, by rw [← hm]; rfl, rfl⟩
  · obtain ⟨m, hm⟩ : ∃ m : Nat, i.tmod 251 = m := ⟨(i.tmod 251).toNat, by omega⟩
    go_ret
    exact ⟨m, by omega, by rw [← hm]; rfl, rfl⟩
/-- block g is a row of forty bytes. -/
def Fo (w : World) (g : Nat) (r : List UInt8) : Prop := r.length = 40 ∧ w.heap[g]? = some (.cells (Lib.byteCells r).toArray 5 (0, 0))
theorem Fo.bs {w : World} {g : Nat} {r : List UInt8} (h : Fo w g r) : Bs w (some ⟨g, 0, none⟩) r := by
  refine Or.inr ⟨g, 0, rfl, heap_lt h.2, fun j hj => ?_⟩
  rw [Nat.zero_add]
  refine cell_is h.2 j ?_
  simp [Lib.byteCells, hj]
def zeroF : List UInt8 := List.replicate 40 0
theorem wrap251 : ∀ x : Fin 251, IntKind.u8.wrap (x.val : Int) = (x.val : Int) := by decide +kernel
theorem makeF (w : World) : (Instr.makeSlice 38 (.int .i64 40) (.int .i64 40)).run Tryz.prog w = .ok (.slice (some ⟨w.heap.size, 0, none⟩) 40 40) (w.alloc (.cells (Lib.byteCells zeroF).toArray 5)) := by kernel_rfl
set_option maxRecDepth 100000 in
set_option maxHeartbeats 1000000 in
theorem block_ok (w : World) (i : Int) : Calls Tryz.prog 38 #[.int .i64 40, .int .i64 i] w fun e w' => ∃ g r, e = .returned (.slice (some ⟨g, 0, none⟩) 40 40) ∧ Chg [] w w' ∧ w.heap.size ≤ g ∧ Fo w' g r := by
  have g0 := heap_new w (.cells (Lib.byteCells zeroF).toArray 5)
  have k0 : Chg [] w (w.alloc (.cells (Lib.byteCells zeroF).toArray 5)) := Chg.alloc w _
  have hmk := makeF
  have mx : max (40 : Int) 0 = 40 := by decide
  go_enter Tryz.func38, Tryz.ntmps38
  go_wp2_with fail
  have hz1 := heap_lt g0
  generalize w.alloc (.cells (Lib.byteCells zeroF).toArray 5) = w1 at *
  generalize hz : w.heap.size = z at *
  go_loopw [6] (fun i wr => ∃ j : Nat, j ≤ 40 ∧ i = .int .i64 j ∧ Chg [] w wr ∧ ∃ r, Fo wr z r) (fun i _ => 40 - (intOf i).toNat)
  case atStart => exact ⟨0, by omega, rfl, k0, zeroF, rfl, g0⟩
  case round =>
    obtain ⟨j, hj, rfl, kc, r, hr, gr⟩ := hrel
    by_cases hlt : j < 40
    · have n1 : decide ((j : Int) < 40) = true := decide_eq_true (by omega)
      go_wp2_with fail
      refine (round251_any wr _).mono ?_
      rintro e w2 ⟨m, hm, rfl, rfl⟩
      have cj : wr.cell? ⟨z, j, none⟩ = some (.int .u8 (r.getD j 0).toNat) := by
        refine cell_is gr j ?_
        simp [Lib.byteCells, hr, hlt, List.getD]
      have fj := unfrozen gr j
      have hm2 : IntKind.u8.wrap (m : Int) = (m : Int) := wrap251 ⟨m, hm⟩
      have gs := heap_set gr j (.int .u8 (m : Int)) (cs' := (Lib.byteCells (r.set j (UInt8.ofNat m))).toArray) (by
        have : Value.int .u8 (m : Int) = (fun b : UInt8 => Value.int .u8 b.toNat) (UInt8.ofNat m) := by
          show _ = Value.int .u8 ((UInt8.ofNat m).toNat : Int)
          rw [UInt8.toNat_ofNat', Nat.mod_eq_of_lt (by omega)]
        rw [this]
        unfold Lib.byteCells
        rw [List.setIfInBounds_toArray, List.map_set])
      have ks : Chg [] w (wr.setCell ⟨z, j, none⟩ (.int .u8 (m : Int))) := kc.trans (Chg.set _ _ _ _) (fun x hx hlt => by simp at hx; omega)
      have HF := Lib.hid (And.intro ks gs)
      clear ks gs kc
      go_wp2_with fail
      refine ⟨⟨j + 1, by omega, by simp, HF.out.1, _, by simpa using hr, HF.out.2⟩, by simp [intOf]; omega⟩
    · obtain rfl : j = 40 := by omega
      go_wp2_with fail
      go_ret
      exact ⟨z, r, rfl, kc, by omega, hr, gr⟩
set_option maxRecDepth 100000 in
theorem data_ok (w : World) (i : Int) : Calls Tryz.prog 11 #[.int .i64 i] w fun e w' => ∃ g r, e = .returned (.slice (some ⟨g, 0, none⟩) 40 40) ∧ Chg [] w w' ∧ w.heap.size ≤ g ∧ Fo w' g r := by
  go_enter Tryz.func11, Tryz.ntmps11
  go_wp2_with fail
  refine (block_ok w i).mono ?_
  rintro e w1 ⟨g, r, rfl, k, hl, hf⟩
  go_wp2_with fail
  go_ret
  exact ⟨g, r, rfl, k, hl, hf⟩
end Go.Proofs.YtnelakpdmjfolaaGreat
namespace Go.Proofs.YtnelakpdmjfolaaGreat
open Go.RowKit Go.Lib

set_option maxRecDepth 100000 in
theorem round_nat (w : World) (x : Nat) : Calls Tryz.prog 81 #[.int .i64 x, .int .i64 251] w fun e w' => e = .returned (.int .i64 (x % 251 : Nat)) ∧ w = w' := by
  have ht : (x : Int).tmod 251 = ((x % 251 : Nat) : Int) := by
    rw [Int.tmod_eq_emod_of_nonneg (by omega)]
    omega
  obtain ⟨m, hm⟩ : ∃ m : Nat, m = x % 251 := ⟨_, rfl⟩
  rw [← hm] at ht ⊢
  have hm1 : m < 251 := by omega
  clear hm
  go_enter Tryz.func81, Tryz.ntmps81
  go_wp2_with fail
  go_ret
  exact ⟨rfl, rfl⟩
/-- the bytes that hang on a number. -/
def datB (i : Nat) : List UInt8 := (List.range 40).map fun j => UInt8.ofNat ((j * j + i * 7 + 1) % 251)
theorem datB_length (i : Nat) : (datB i).length = 40 := by simp [datB]
theorem datB_at (i j : Nat) (h : j < (datB i).length) : (datB i)[j] = UInt8.ofNat ((j * j + i * 7 + 1) % 251) := by simp [datB]
set_option maxRecDepth 100000 in
set_option maxHeartbeats 1000000 in
theorem block_ex (w : World) (i : Nat) (hi : i ≤ 1000) : Calls Tryz.prog 38 #[.int .i64 40, .int .i64 i] w fun e w' => ∃ g, e = .returned (.slice (some ⟨g, 0, none⟩) 40 40) ∧ Chg [] w w' ∧ w.heap.size ≤ g ∧ Fo w' g (datB i) := by
  have g0 := heap_new w (.cells (Lib.byteCells zeroF).toArray 5)
  have k0 : Chg [] w (w.alloc (.cells (Lib.byteCells zeroF).toArray 5)) := Chg.alloc w _
  have hmk := makeF
  have mx : max (40 : Int) 0 = 40 := by decide
  go_enter Tryz.func38, Tryz.ntmps38
  go_wp2_with fail
  have hz1 := heap_lt g0
  generalize w.alloc (.cells (Lib.byteCells zeroF).toArray 5) = w1 at *
  generalize hz : w.heap.size = z at *
  go_loopw [6] (fun i' wr => ∃ j : Nat, j ≤ 40 ∧ i' = .int .i64 j ∧ Chg [] w wr ∧ ∃ r, Fo wr z r ∧ r.take j = (datB i).take j) (fun i _ => 40 - (intOf i).toNat)
  case atStart => exact ⟨0, by omega, rfl, k0, zeroF, ⟨rfl, g0⟩, rfl⟩
  case round =>
    obtain ⟨j, hj, rfl, kc, r, ⟨hr, gr⟩, hrt⟩ := hrel
    by_cases hlt : j < 40
    · have n1 : decide ((j : Int) < 40) = true := decide_eq_true (by omega)
      obtain ⟨s, hs⟩ : ∃ s : Nat, s = j * j := ⟨_, rfl⟩
      have hs1 : s ≤ 1600 := by rw [hs]; exact Nat.mul_le_mul (show j ≤ 40 by omega) (show j ≤ 40 by omega)
      have hsi : (j : Int) * (j : Int) = (s : Int) := by rw [hs]; push_cast; rfl
      have HS := Lib.hid hs
      have HRt := Lib.hid hrt
      clear hs hrt
      have hfe : (s : Int) + (i : Int) * 7 + 1 = ((s + i * 7 + 1 : Nat) : Int) := by push_cast; rfl
      have HRn := Lib.hid (round_nat wr (s + i * 7 + 1))
      rw [← hfe] at HRn
      clear hfe
      go_wp2_with fail
      refine HRn.out.mono ?_
      rintro e w2 ⟨rfl, rfl⟩
      obtain ⟨m, hmm⟩ : ∃ m : Nat, m = (s + i * 7 + 1) % 251 := ⟨_, rfl⟩
      have hm : m < 251 := by omega
      rw [← hmm]
      have HMm := Lib.hid hmm
      clear hmm HRn
      have cj : wr.cell? ⟨z, j, none⟩ = some (.int .u8 (r.getD j 0).toNat) := by
        refine cell_is gr j ?_
        simp [Lib.byteCells, hr, hlt, List.getD]
      have fj := unfrozen gr j
      have hm2 : IntKind.u8.wrap (m : Int) = (m : Int) := wrap251 ⟨m, hm⟩
      have gs := heap_set gr j (.int .u8 (m : Int)) (cs' := (Lib.byteCells (r.set j (UInt8.ofNat m))).toArray) (by
        have : Value.int .u8 (m : Int) = (fun b : UInt8 => Value.int .u8 b.toNat) (UInt8.ofNat m) := by
          show _ = Value.int .u8 ((UInt8.ofNat m).toNat : Int)
          rw [UInt8.toNat_ofNat', Nat.mod_eq_of_lt (by omega)]
        rw [this]
        unfold Lib.byteCells
        rw [List.setIfInBounds_toArray, List.map_set])
      have ks : Chg [] w (wr.setCell ⟨z, j, none⟩ (.int .u8 (m : Int))) := kc.trans (Chg.set _ _ _ _) (fun x hx hlt => by simp at hx; omega)
      have htk : (r.set j (UInt8.ofNat m)).take (j + 1) = (datB i).take (j + 1) := by
        have h1 : j < (r.set j (UInt8.ofNat m)).length := by rw [List.length_set]; omega
        have h2 : j < (datB i).length := by rw [datB_length]; omega
        rw [List.take_succ_eq_append_getElem h1, List.take_succ_eq_append_getElem h2, List.take_set_of_le (Nat.le_refl j), HRt.out, datB_at, ← HS.out, List.getElem_set_self, HMm.out]
      have HF := Lib.hid (And.intro ks (And.intro gs htk))
      clear ks gs kc htk
      go_wp2_with fail
      refine ⟨⟨j + 1, by omega, by simp, HF.out.1, _, ⟨by simpa using hr, HF.out.2.1⟩, HF.out.2.2⟩, by simp [intOf]; omega⟩
    · obtain rfl : j = 40 := by omega
      have e : r = datB i := by
        rw [List.take_of_length_le (by omega), List.take_of_length_le (by rw [datB_length]; omega)] at hrt
        exact hrt
      subst e
      have HF := Lib.hid (And.intro kc gr)
      clear kc gr
      go_wp2_with fail
      go_ret
      exact ⟨z, rfl, HF.out.1, by omega, datB_length i, HF.out.2⟩
set_option maxRecDepth 100000 in
theorem data_ex (w : World) (i : Nat) (hi : i ≤ 1000) : Calls Tryz.prog 11 #[.int .i64 i] w fun e w' => ∃ g, e = .returned (.slice (some ⟨g, 0, none⟩) 40 40) ∧ Chg [] w w' ∧ w.heap.size ≤ g ∧ Fo w' g (datB i) := by
  go_enter Tryz.func11, Tryz.ntmps11
  go_wp2_with fail
  refine (block_ex w i hi).mono ?_
  rintro e w1 ⟨g, rfl, k, hl, hf⟩
  have HF := Lib.hid (And.intro k (And.intro hl hf))
  clear k hl hf
  go_wp2_with fail
  go_ret
  exact ⟨g, rfl, HF.out⟩
set_option maxRecDepth 100000 in
set_option maxHeartbeats 1000000 in
theorem bytes_same (w : World) {ga gb ca cb : Nat} {l : List UInt8} (ha : Bs w (some ⟨ga, 0, none⟩) l) (hb : Bs w (some ⟨gb, 0, none⟩) l) (hl : l.length = 40) : Calls Tryz.prog 21 #[.slice (some ⟨ga, 0, none⟩) 40 ca, .slice (some ⟨gb, 0, none⟩) 40 cb] w fun e w' => e = .returned (.bool true) ∧ Chg [] w w' := by
  have HA := Lib.hid ha
  have HB := Lib.hid hb
  clear ha hb
  go_enter Tryz.func21, Tryz.ntmps21
  go_wp2_with fail
  go_loopw [5] (fun i wr => ∃ j : Nat, j ≤ 40 ∧ i = .int .i64 j ∧ Chg [] w wr) (fun i _ => 40 - (intOf i).toNat)
  case atStart => exact ⟨0, by omega, rfl, Chg.refl _ _⟩
  case round =>
    obtain ⟨j, hj, rfl, kr⟩ := hrel
    by_cases hlt : j < 40
    · have n1 : decide ((j : Int) < 40) = true := decide_eq_true (by omega)
      have hjl : j < l.length := by omega
      have a0 := (HA.out.chg kr).at_ j hjl
      have b0 := (HB.out.chg kr).at_ j hjl
      rw [Nat.zero_add] at a0 b0
      generalize (l[j].toNat : Int) = x at *
      have hx : (x != x) = false := bne_self_eq_false x
      have HK := Lib.hid kr
      clear kr
      go_wp2_with fail
      go_quiet (fail)
      have HK2 := Lib.hid (HK.out.drewN nq)
      clear a0 b0
      go_wp2_with fail
      exact ⟨⟨j + 1, by omega, by simp, HK2.out⟩, by simp [intOf]; omega⟩
    · obtain rfl : j = 40 := by omega
      go_wp2_with fail
      go_ret
      exact ⟨rfl, kr⟩
end Go.Proofs.YtnelakpdmjfolaaGreat
namespace Go.Proofs.YtnelakpdmjfolaaGreat
open Go.RowKit Go.Lib

set_option maxRecDepth 100000 in
theorem least24 (w : World) : Calls Tryz.prog 6 #[] w fun e w' => e = .returned (.agg #[.int .i64 8, .int .i64 96]) ∧ Chg [] w w' := by
  have k1 : Chg [] w (w.alloc (.cells #[.int .i64 8, .int .i64 96] 24)) := Chg.alloc w _
  have y1 := heap_new w (.cells #[.int .i64 8, .int .i64 96] 24)
  have c0 := cell_is y1 0 rfl
  have c1 := cell_is y1 1 rfl
  go_enter Tryz.func6, Tryz.ntmps6
  go_wp2_with fail
  refine bodyPost_ret (v := .agg #[.int .i64 8, .int .i64 96]) (by simp [results, Tryz.results6, go_sem]) rfl ?_
  exact ⟨rfl, k1⟩
/-- a new world of law 24: block K, its store, all of it new. -/
def Fr24 (w : World) (e : Ending) (w' : World) : Prop :=
  ∃ K G d ops, e = .returned (.tuple #[.pointer (some ⟨K, 0, none⟩), .bool true]) ∧ Chg [] w w' ∧ w'.heap[K]? = some (.cells #[.pointer (some ⟨d.N, 0, none⟩), .pointer (some ⟨d.P, 0, none⟩), .pointer (some ⟨G, 0, none⟩), .int .i64 0] 57 (0, 0)) ∧
    Sto w' w.heap.size d (s00 w.heap.size) (g00 w.heap.size ops) ∧ (0 ≤ ops ∧ ops ≤ 2)
set_option maxRecDepth 100000 in
set_option maxHeartbeats 4000000 in
theorem fresh24 (w : World) : Calls Tryz.prog 22 #[.agg #[.int .i64 8, .int .i64 96]] w (Fr24 w) := by
  have kg : Chg [] w (w.alloc (.cells #[.int .i64 8, .int .i64 96] 24)) := Chg.alloc w _
  have g0 := heap_new w (.cells #[.int .i64 8, .int .i64 96] 24)
  have a0 : (w.alloc (.cells #[.int .i64 8, .int .i64 96] 24)).cell? ⟨w.heap.size, 0, none⟩ = some (.int .i64 8) := cell_is g0 0 rfl
  have a1 : (w.alloc (.cells #[.int .i64 8, .int .i64 96] 24)).cell? ⟨w.heap.size, 1, none⟩ = some (.int .i64 96) := cell_is g0 1 rfl
  go_enter Tryz.func22, Tryz.ntmps22
  go_wp2_with fail
  generalize w.alloc (.cells #[.int .i64 8, .int .i64 96] 24) = w0 at *
  have hw0 := kg.size
  generalize hz0 : w.heap.size = z0 at *
  refine (new_any2 w0).mono ?_
  rintro e w1 ⟨N, A, c, Z, rfl, k1, hD, hO, lN, lA, lZ, hAx, hZn⟩
  have g1 := k1.heap g0 (by simp)
  have hs1 := k1.size
  have hAl := hD.A_lt
  have hNl := heap_lt hD.1
  have hZl : ∀ z ∈ Z, z < w1.heap.size := fun z hz => by
    obtain ⟨j, hj, e⟩ := List.getElem_of_mem hz
    rw [← e]
    exact heap_lt (hD.2.2.2.2 j hj)
  clear a0 a1
  go_wp2_with fail
  refine (mount_any w1 hD hO hZl (by omega) (by omega)).mono ?_
  rintro e w2 ⟨P, S, M, X, rx, B, rb, r, rfl, hM, lP, lS, lM, lX, lrx, lB, lrb, lr, n1, n2, n3⟩
  have h0l := heap_lt g0
  have k2 := hM.1
  have hX2 : ExAt w2 S N A Z := by
    obtain ⟨cs, hAx⟩ := hAx
    exact ⟨hM.2.2.2.1, ⟨cs, k2.heap hAx (by intro hm; rcases List.mem_cons.1 hm with e | hm; exact hO.1 e; exact hO.2.2 hm)⟩, hZn⟩
  have g2 := k2.heap g1 (by
    intro hm
    rcases List.mem_cons.1 hm with e | hm
    · omega
    · have := lZ _ hm; omega)
  have hs2 := k2.size
  have b0 : w2.cell? ⟨z0, 0, none⟩ = some (.int .i64 8) := cell_is g2 0 rfl
  have b1 : w2.cell? ⟨z0, 1, none⟩ = some (.int .i64 96) := cell_is g2 1 rfl
  have hSt := hM.sto (lw := z0) hX2 n1 n2 n3 (by omega) (fun z hz => by have := lZ z hz; omega) (by omega)
  have kk2 : Chg [] w w2 := (kg.then k1).trans k2 (fun x hx hlt => by
    rcases List.mem_cons.1 hx with e | hx
    · have := kg.size; omega
    · have := lZ x hx; have := kg.size; omega)
  have HM := Lib.hid hM
  clear hD hO hM hX2 k2 g1 g0 k1 kg
  go_wp2_with fail
  refine (rcap_min w2).mono ?_
  rintro e w3 ⟨rfl, k3⟩
  have h3 := hSt.keep k3
  have kk3 := kk2.then k3
  clear b0 b1
  go_wp2_with fail
  refine (rm_new w3).mono ?_
  rintro e w4 ⟨G, Y, rfl, k4, -, lG⟩
  have h4 := h3.keep k4
  have kk4 := kk3.then k4
  have g4 := (k3.then k4).heap g2 (by simp)
  have HM4 := Lib.hid (HM.out.keep (k3.then k4))
  have H4 := Lib.hid (And.intro kk4 h4)
  have b0 : w4.cell? ⟨z0, 0, none⟩ = some (.int .i64 8) := cell_is g4 0 rfl
  have b1 : w4.cell? ⟨z0, 1, none⟩ = some (.int .i64 96) := cell_is g4 1 rfl
  clear h3 h4 hSt kk3 kk2 kk4 k3 k4 g2 HM
  have kk : Chg [] w4 w4 := Chg.refl _ _
  have hh : ∀ wx, Chg [] w4 wx → Chg [] w4 wx ∧ wx.cell? ⟨z0, 0, none⟩ = some (.int .i64 8) ∧ wx.cell? ⟨z0, 1, none⟩ = some (.int .i64 96) := fun wx k => ⟨k, k.cell b0 (by simp), k.cell b1 (by simp)⟩
  have hBl : ∀ wx, Chg [] w4 wx → Calls Tryz.prog 10 #[.pointer (some ⟨P, 0, none⟩)] wx fun e w' => e = .returned (.int .i64 258) ∧ Chg [] wx w' := fun wx k => by
    have h := HM4.out.keep k
    exact sblocks_any wx h.2.2.1 h.2.1
  have HBl := Lib.hid hBl
  have hfin : ∀ K wx, Chg [] w4 wx → wx.heap[K]? = some (.cells #[.pointer (some ⟨N, 0, none⟩), .pointer (some ⟨P, 0, none⟩), .pointer (some ⟨G, 0, none⟩), .int .i64 0] 57 (0, 0)) → Fr24 w (.returned (.tuple #[.pointer (some ⟨K, 0, none⟩), .bool true])) wx := fun K wx k y =>
    ⟨K, G, d00 N A c Z P S M X rx B rb r, 0 + 1, rfl, H4.out.1.then k, y, by rw [hz0]; exact H4.out.2.keep k, by omega⟩
  have HFin := Lib.hid hfin
  have HH := Lib.hid hh
  clear hBl hh hfin
  go_wp2_with fail
  go_region_held3 (fun wx => Chg [] w4 wx ∧ wx.cell? ⟨z0, 0, none⟩ = some (.int .i64 8) ∧ wx.cell? ⟨z0, 1, none⟩ = some (.int .i64 96))
    (first
      | (exact HH.out _ kk)
      | (exact HH.out _ kk.drew)
      | (exact HH.out _ (kk.then_alloc _))
      | (exact HH.out _ (kk.drew.then_alloc _)))
    (first
      | (go_at_call 10; refine (HBl.out _ (by first | exact kk | exact kk.drew | exact kk.then_alloc _ | exact kk.drew.then_alloc _)).mono ?_; rintro e wb ⟨rfl, kb⟩; replace kk : Chg [] w4 wb := (by first | exact kk.then kb | exact kk.drew.then kb | exact (kk.then_alloc _).then kb | exact (kk.drew.then_alloc _).then kb))
      | (go_at_call 59; refine (rcap_min _).mono ?_; rintro e wc ⟨rfl, kc⟩; replace kk : Chg [] w4 wc := (by first | exact kk.then kc | exact kk.drew.then kc | exact (kk.then_alloc _).then kc | exact (kk.drew.then_alloc _).then kc)))
  all_goals
    have HK := Lib.hid (And.intro kb (And.intro kc kk))
    clear kb kc kk
    go_wp2_with fail
    go_ret2
    first
      | (exact HFin.out _ _ HK.out.2.2 ((HK.out.1.then HK.out.2.1).heap (heap_new w4 _) (by simp)))
      | (exact HFin.out _ _ HK.out.2.2 (HK.out.2.1.heap (heap_new wb _) (by simp)))
      | (exact HFin.out _ _ (HK.out.2.2.then_alloc _) (heap_new wc _))
      | (exact HFin.out _ _ (HK.out.2.2.drew.then_alloc _) (heap_new wc _))
end Go.Proofs.YtnelakpdmjfolaaGreat
namespace Go.Proofs.YtnelakpdmjfolaaGreat
open Go.RowKit Go.Lib

theorem Ow.chg0 {base : Nat} {w0 w w' : World} (h : Chg [] w0 w) (k : Ow base w w') (hb : w0.heap.size ≤ base) : Chg [] w0 w' := by
  obtain ⟨T, h1, h2⟩ := k
  exact h.trans h1 (fun x hx hlt => by have := (h2 x hx).1; omega)
/-- a store with an open transaction: base, its parts. -/
def A1 (lw : Nat) (d : Ids) (ops : Int) (q : Int → List UInt8) (L : List (Int × Value)) (w : World) : Prop :=
  ∃ base d', d'.P = d.P ∧ d'.N = d.N ∧ Fr base d' (begP (s00 lw)) (StoF lw d' (begS (s00 lw) d'.T) (g00 lw ops)) ∧ Su w base d' (begP (s00 lw)) (StoF lw d' (begS (s00 lw) d'.T) (g00 lw ops)) q L 0 ∧ lw ≤ d'.T ∧ lw ≤ base
theorem A1.keep {lw : Nat} {d : Ids} {ops : Int} {q : Int → List UInt8} {L : List (Int × Value)} {w w' : World} (h : A1 lw d ops q L w) (hc : Chg [] w w') : A1 lw d ops q L w' := by
  obtain ⟨base, d', h1, h2, h3, h4, h5, h6⟩ := h
  exact ⟨base, d', h1, h2, h3, h4.keep h3 hc, h5, h6⟩
theorem A1.size {lw : Nat} {d : Ids} {ops : Int} {q : Int → List UInt8} {L : List (Int × Value)} {w : World} (h : A1 lw d ops q L w) : lw ≤ w.heap.size := by
  obtain ⟨base, d', h1, h2, h3, h4, h5, h6⟩ := h
  have hS : Sto w lw d' (begS (s00 lw) d'.T) (g00 lw ops) := h4.env
  exact hS.slo
/-- what begin leaves. -/
theorem beg24 (w : World) {lw : Nat} {d : Ids} {ops : Int} (h : Sto w lw d (s00 lw) (g00 lw ops)) : Calls Tryz.prog 9 #[.pointer (some ⟨d.P, 0, none⟩)] w fun e w' => e = .returned (.tuple #[.int .i64 1, .int .i64 0]) ∧ Cs lw w w' ∧ ∃ q, A1 lw d ops q [] w' := by
  have hl : d.rx < w.heap.size ∧ d.rb < w.heap.size ∧ d.r < w.heap.size := ⟨h.mx.ver.m.lt, h.mx.book.2.lt, h.mx.map.lt⟩
  have hlw : lw ≤ w.heap.size := h.slo
  refine (sbegin_gen w h rfl (show (0 : Int) ≤ 0 by decide) (show (0 : Int) ≤ 1099511627776 by decide) (show (0 : Int) ≤ 0 by decide) (show (0 : Int) ≤ 1000000 by decide)).mono ?_
  rintro e w' ⟨rfl, T, W, rw, Q, V, c1, hT, hSu⟩
  exact ⟨rfl, c1, _, w.heap.size, { d with T := T, W := W, rw := rw, Q := Q, V := V }, rfl, rfl, fr_sto hl rfl rfl rfl rfl rfl, hSu, Nat.le_trans hlw hT, hlw⟩
/-- .. a put of forty bytes is written. -/
theorem wri24 (w : World) {lw : Nat} {d : Ids} {ops : Int} {q : Int → List UInt8} {E D c cp : Nat} {b : Int} {l : List UInt8} (h : A1 lw d ops q [] w) (e0 : w.cell? ⟨E, 0, none⟩ = some (.int .i64 b)) (e1 : w.cell? ⟨E, 1, none⟩ = some (.slice (some ⟨D, 0, none⟩) 40 c)) (hb : Bs w (some ⟨D, 0, none⟩) l) (hl : l.length = 40) (h0 : 0 ≤ b) (h1 : b < 258) :
    Calls Tryz.prog 12 #[.pointer (some ⟨d.P, 0, none⟩), .int .i64 1, .slice (some ⟨E, 0, none⟩) 1 cp] w fun e w' => e = .returned (.int .i64 0) ∧ (∃ base, lw ≤ base ∧ Ow base w w') ∧ ∃ v, A1 lw d ops (putQ q b l) [(b, v)] w' := by
  obtain ⟨base, d', eP, eN, hf, hs, hT, hbs⟩ := h
  rw [← eP]
  refine (swrite_gen w (cp := cp) (eo := 0) hf hs e0 e1 hb hl h0 h1 (by simp)).mono ?_
  rintro e w' ⟨v, rfl, ho, hs'⟩
  exact ⟨rfl, ⟨base, hbs, ho⟩, v, base, d', eP, eN, hf, hs', hT, hbs⟩
/-- a store with a transaction that waits. -/
def A3 (lw : Nat) (d : Ids) (ops : Int) (q : Int → List UInt8) (L : List (Int × Value)) (w : World) : Prop :=
  ∃ d' gq cq, d'.P = d.P ∧ d'.N = d.N ∧ Sto w lw d' (comS (begS (s00 lw) d'.T) gq cq) (g00 lw ops) ∧ Wtx w d' (comS (begS (s00 lw) d'.T) gq cq) gq cq 1 1 0 0 L q ∧ lw ≤ d'.T
theorem A3.keep {lw : Nat} {d : Ids} {ops : Int} {q : Int → List UInt8} {L : List (Int × Value)} {w w' : World} (h : A3 lw d ops q L w) (hc : Chg [] w w') : A3 lw d ops q L w' := by
  obtain ⟨d', gq, cq, h1, h2, h3, h4, h5⟩ := h
  exact ⟨d', gq, cq, h1, h2, h3.keep hc, h4.keep hc, h5⟩
theorem com24 (w : World) {lw : Nat} {d : Ids} {ops : Int} {q : Int → List UInt8} {L : List (Int × Value)} (h : A1 lw d ops q L w) (hl0 : 0 < L.length) (hl : L.length ≤ 16) : Calls Tryz.prog 13 #[.pointer (some ⟨d.P, 0, none⟩), .int .i64 1] w fun e w' => e = .returned (.int .i64 0) ∧ Cs lw w w' ∧ A3 lw d ops q L w' := by
  have hsz := h.size
  obtain ⟨base, d', eP, eN, hf, hs, hT, hbs⟩ := h
  rw [← eP]
  refine (scommit_sto w (loq := lw) (n := 0) (k := 1) hf hs rfl (World.ownsRow_nil _ _ _ _) hsz (Nat.le_refl _) rfl ⟨fun p hp => (by cases hp), fun b x hx => (by cases hx)⟩ rfl (show (0 : Int) < 1099511627776 by decide) (show (0 : Int) ≤ 0 by decide) hl hl0 (by omega) rfl rfl hT).mono ?_
  rintro e w' ⟨rfl, gq, cq, h1, h2, h3⟩
  exact ⟨rfl, h3, d', gq, cq, eP, eN, h1, h2, hT⟩
/-- a device with one batch, all of it for good. -/
def A4 (d : Ids) (l : List (Int × List UInt8)) (w : World) : Prop :=
  ∃ base A c ops Z vs gs zs, DevG w base d.N A c ops Z vs gs zs ∧ (∀ j, j < 8 → gs j = (zs j).length) ∧ (∀ j, j ≠ 6 → zs j = []) ∧ zs 6 = logL 0 1 [(1, l)]
theorem A4.keep {d : Ids} {l : List (Int × List UInt8)} {w w' : World} (h : A4 d l w) (hc : Chg [] w w') : A4 d l w' := by
  obtain ⟨base, A, c, ops, Z, vs, gs, zs, h1, h2⟩ := h
  exact ⟨base, A, c, ops, Z, vs, gs, zs, h1.keep hc (Av.nil _ _), h2⟩
theorem flu24 (w : World) {lw : Nat} {d : Ids} {ops : Int} {q : Int → List UInt8} {L : List (Int × Value)} (h : A3 lw d ops q L w) (hops : 0 ≤ ops ∧ ops ≤ 2) : Calls Tryz.prog 14 #[.pointer (some ⟨d.P, 0, none⟩)] w fun e w' => e = .returned (.int .i64 0) ∧ Cs lw w w' ∧ A4 d (putsL L q) w' := by
  obtain ⟨d', gq, cq, eP, eN, hS, hW, hT⟩ := h
  have hlw : lw ≤ w.heap.size := hS.slo
  have hL := hW.len
  rw [← eP]
  refine (sflush_ok w (k := 1) hS hW rfl hT hlw (by decide) (show (0 : Int) < 1 by decide) (by decide) (fun c => (show 0 + 16 < 1000000 by decide)) (show (0 : Int) ≤ 0 by decide) (show (0 : Int) ≤ 100000000 by decide) (by show 0 + L.length + 1 ≤ 96; omega) (by show 0 + L.length + 1 ≤ 96; omega) (show 0 ≤ ops by omega) (show ops ≤ 900000 by omega) (show 0 < 4294967296 by decide) (show 0 < 1000000000 by decide)).mono ?_
  rintro e w' ⟨rfl, z, Lv', v6, h1, h2, -⟩
  refine ⟨rfl, h2, _, d'.A, d'.c, _, d'.Z, _, _, _, by rw [← eN]; exact h1.dev, fun j hj => ?_, fun j hj => ?_, ?_⟩
  · simp [doneG, goodF, hj]
  · simp [doneG, upF, hj, g00]
  · simp [doneG, upF, g00, logL]
end Go.Proofs.YtnelakpdmjfolaaGreat
namespace Go.Proofs.YtnelakpdmjfolaaGreat
open Go.RowKit Go.Lib

theorem data1 (w : World) : Calls Tryz.prog 11 #[.int .i64 1] w fun e w' => ∃ g, e = .returned (.slice (some ⟨g, 0, none⟩) 40 40) ∧ Chg [] w w' ∧ w.heap.size ≤ g ∧ Fo w' g (datB 1) := data_ex w 1 (by decide)
theorem sortI_one (k : Int) : sortI [k] = [k] := by simp [sortI]
theorem putsL_one (k : Int) (v : Value) (D : Int → List UInt8) : putsL [(k, v)] D = [(k, D k)] := by simp [putsL, sortI]
theorem fin_one (k : Int) (b : List UInt8) : finL [(k, b)] = [(k, b)] := by simp [finL, appK, appD, sortI]
theorem getL_mem {L : List (Int × Value)} {k : Int} {v : Value} (h : getL L k = some v) : k ∈ L.map Prod.fst := by
  induction L with
  | nil => cases h
  | cons p l ih =>
    simp only [getL] at h
    by_cases e : k = p.1
    · simp [e]
    · rw [if_neg e] at h
      exact List.mem_cons_of_mem _ (ih h)
theorem ver_one {w : World} {lo X rx : Nat} {last : Int} {L : List (Int × Value)} {k : Int} {b : List UInt8} (h : VerG w lo X rx last L (applyV (fun _ => []) k [(5, b)])) (hk : ∀ p ∈ L, 0 ≤ p.1 ∧ p.1 < 258) : L.map Prod.fst = [5] ∧ dumpL L (applyV (fun _ => []) k [(5, b)]) = [(5, b)] := by
  have hv : ∀ j, applyV (fun _ => []) k [(5, b)] j = if j = 5 then [(k, b)] else [] := fun j => by simp [applyV, addV]
  have h5 : L.map Prod.fst = [5] := by
    have hall : ∀ x ∈ L.map Prod.fst, x = 5 := by
      intro x hx
      obtain ⟨v, hg⟩ := getL_key hx
      obtain ⟨p, hp, rfl⟩ := List.mem_map.1 hx
      have hb := hk p hp
      rcases h.row p.1 hb.1 hb.2 with ⟨e, -⟩ | ⟨_, _, _, e⟩
      · rw [hg] at e; cases e
      · rw [hv] at e
        by_cases e5 : p.1 = 5
        · exact e5
        · rw [if_neg e5] at e
          exact absurd rfl e
    have hmem : (5 : Int) ∈ L.map Prod.fst := by
      rcases h.row 5 (by decide) (by decide) with ⟨-, e⟩ | ⟨v, e, -⟩
      · rw [hv] at e
        simp at e
      · exact getL_mem e
    have hnd := h.m.nodup
    generalize L.map Prod.fst = K at *
    match K, hall, hmem, hnd with
    | [x], hall, _, _ => rw [hall x (by simp)]
    | x :: y :: K, hall, _, hnd =>
      have e1 := hall x (by simp)
      have e2 := hall y (by simp)
      subst e1
      subst e2
      simp at hnd
  refine ⟨h5, ?_⟩
  rw [dumpL, h5, sortI_one]
  simp [hv, lastB]
theorem bs_one (b : List UInt8) (hb : b.length = 40) : BsOk [(1, [(5, b)])] := by
  refine ⟨fun i h => ?_, fun i h => ?_, ?_, by simp⟩
  · obtain rfl : i = 0 := by simpa using h
    exact ⟨by simp [lastT], by simp⟩
  · obtain rfl : i = 0 := by simpa using h
    refine ⟨by simp, by simp, fun j hj => by simp at hj, fun x hx => ?_, fun x hx => ?_⟩
    · have : x = (5, b) := by simpa using hx
      subst this
      exact ⟨show (0 : Int) ≤ 5 by decide, show (5 : Int) < 258 by decide⟩
    · have : x = (5, b) := by simpa using hx
      subst this
      exact hb
  · simp [logL, batL_length]
theorem fin_all (k : Nat) (b : List UInt8) : finL (allP [(k, [(5, b)])]) = [(5, b)] := fin_one 5 b
/-- a device that a crash left is mounted. -/
theorem mount_one (w : World) {b : List UInt8} {w0 : World} {N A c : Nat} {Z : List Nat} {vs : Nat → Value} {gs : Nat → Nat} {zs : Nat → List (List UInt8)} {base : Nat} (hb : b.length = 40) (hD : DevG w base N A c 0 Z vs gs zs) (hz : zs 0 = [] ∧ zs 3 = [] ∧ zs 7 = []) (h6 : zs 6 = logL 0 1 [(1, [(5, b)])]) (k : Chg [] w0 w) (lN : w0.heap.size ≤ N) (lZ : ∀ z ∈ Z, w0.heap.size ≤ z) :
    Calls Tryz.prog 8 #[.pointer (some ⟨N, 0, none⟩)] w fun e w' => ∃ P S M X rx B r lo Lv pos num, e = .returned (.tuple #[.pointer (some ⟨P, 0, none⟩), .int .i64 0]) ∧ Chg [] w0 w' ∧ StoreG w' P N S M pos num ∧ MgrG w' M X B r (.slice none 0 0) 0 0 1 1 1 false ∧ VerG w' lo X rx 1 Lv (applyV (fun _ => []) 1 [(5, b)]) ∧ (∀ p ∈ Lv, 0 ≤ p.1 ∧ p.1 < 258) ∧ Lv.length ≤ 1000 := by
  have e6 : (zs 6).length = 2 := by rw [h6]; simp [logL, batL_length]
  have hf : (finL (allP [(1, [(5, b)])])).length = 1 := by rw [fin_all]; rfl
  have hlt : ∀ z ∈ Z, z < w.heap.size := fun z hz => by
    obtain ⟨j, hj, e⟩ := List.getElem_of_mem hz
    rw [← e]
    exact heap_lt (hD.zone j hj)
  refine (kmount w hD.k hz h6 (bs_one b hb) (by simp) (by omega) (by omega) (by omega) hlt (heap_lt hD.hdr) (by decide) (by decide) (by decide) (by decide) (show 0 < 1 ∧ 1 ≤ 1099511627776 by decide) (fun x hx => ?_)).mono ?_
  · have : x = (5, b) := by simpa [allP] using hx
    subst this
    exact ⟨show (0 : Int) ≤ 5 by decide, show (5 : Int) < 258 by decide⟩
  · rintro e w' ⟨P, S, M, X, rx, B, rb, r, lo, Lv, rfl, h⟩
    rw [fin_all] at h
    have hV : VerG w' lo X rx 1 Lv (applyV (fun _ => []) 1 [(5, b)]) := h.ver
    refine ⟨P, S, M, X, rx, B, r, lo, Lv, _, _, rfl, k.trans h.chg (fun x hx hlt => ?_), h.store, h.mgr, hV, h.keys, ?_⟩
    · rcases List.mem_cons.1 hx with e | hx
      · omega
      · have := lZ x hx; omega
    · have := congrArg List.length (ver_one hV h.keys).1
      rw [List.length_map] at this
      simp at this
      omega
/-- what stands in a world of law 24. -/
def W24 (w0 : World) (K G : Nat) (d : Ids) (F : World → Prop) (w : World) : Prop :=
  F w ∧ w.heap[K]? = some (.cells #[.pointer (some ⟨d.N, 0, none⟩), .pointer (some ⟨d.P, 0, none⟩), .pointer (some ⟨G, 0, none⟩), .int .i64 0] 57 (0, 0)) ∧ Chg [] w0 w
theorem W24.keep {w0 : World} {K G : Nat} {d : Ids} {F : World → Prop} {w w' : World} (hF : ∀ a b, F a → Chg [] a b → F b) (h : W24 w0 K G d F w) (hc : Chg [] w w') : W24 w0 K G d F w' := ⟨hF _ _ h.1 hc, hc.heap h.2.1 (by simp), h.2.2.then hc⟩
theorem W24.p {w0 : World} {K G : Nat} {d : Ids} {F : World → Prop} {w : World} (h : W24 w0 K G d F w) : w.cell? ⟨K, 1, none⟩ = some (.pointer (some ⟨d.P, 0, none⟩)) := cell_is h.2.1 1 rfl
theorem W24.n {w0 : World} {K G : Nat} {d : Ids} {F : World → Prop} {w : World} (h : W24 w0 K G d F w) : w.cell? ⟨K, 0, none⟩ = some (.pointer (some ⟨d.N, 0, none⟩)) := cell_is h.2.1 0 rfl
set_option maxRecDepth 100000 in
set_option maxHeartbeats 8000000 in
theorem awake24 (w : World) : Calls Tryz.prog 5 #[] w fun e w' => e = .returned (.bool true) ∧ Chg [] w w' := by
  go_enter Tryz.func5, Tryz.ntmps5
  go_wp2_with fail
  refine (least24 w).mono ?_
  rintro e w1 ⟨rfl, k1⟩
  go_wp2_with fail
  refine (fresh24 w1).mono ?_
  rintro e w2 ⟨K, G, d, ops, rfl, k2, hK, hS, ho⟩
  have c1 : w2.cell? ⟨K, 1, none⟩ = some (.pointer (some ⟨d.P, 0, none⟩)) := cell_is hK 1 rfl
  have HB := Lib.hid (beg24 w2 hS)
  have H2 := Lib.hid (And.intro k1 (And.intro k2 (And.intro hK ho)))
  clear k1 k2 hK hS ho
  go_wp2_with fail
  refine HB.out.mono ?_
  rintro e w3 ⟨rfl, cs3, q, hA3⟩
  have h3 : W24 w1 K G d (A1 w1.heap.size d ops q []) w3 := ⟨hA3, cs3.heap H2.out.2.2.1 (by decide), Cs.chg0 H2.out.2.1 cs3 (Nat.le_refl _)⟩
  have f1 : ∀ a b, A1 w1.heap.size d ops q [] a → Chg [] a b → A1 w1.heap.size d ops q [] b := fun a b h k => h.keep k
  have hWr : ∀ w4 D, W24 w1 K G d (A1 w1.heap.size d ops q []) w4 → Fo w4 D (datB 1) → ∀ wx E cp, Chg [] w4 wx → wx.heap[E]? = some (.cells #[.int .i64 5, .slice (some ⟨D, 0, none⟩) 40 40] 41 (0, 0)) →
      Calls Tryz.prog 12 #[.pointer (some ⟨d.P, 0, none⟩), .int .i64 1, .slice (some ⟨E, 0, none⟩) 1 cp] wx fun e w' => e = .returned (.int .i64 0) ∧ ∃ v, W24 w1 K G d (A1 w1.heap.size d ops (putQ q 5 (datB 1)) [(5, v)]) w' := fun w4 D h4 hF wx E cp kx hE => by
    have hx := h4.keep f1 kx
    refine (wri24 wx (cp := cp) hx.1 (cell_is hE 0 rfl) (cell_is hE 1 rfl) (hF.bs.chg kx) (datB_length 1) (by decide) (by decide)).mono ?_
    rintro e w' ⟨rfl, ⟨b, hb, o⟩, v, hA⟩
    exact ⟨rfl, v, hA, o.heap hx.2.1 (by decide), Ow.chg0 hx.2.2 o hb⟩
  have hCo : ∀ v wx, W24 w1 K G d (A1 w1.heap.size d ops (putQ q 5 (datB 1)) [(5, v)]) wx → Calls Tryz.prog 13 #[.pointer (some ⟨d.P, 0, none⟩), .int .i64 1] wx fun e w' => e = .returned (.int .i64 0) ∧ W24 w1 K G d (A3 w1.heap.size d ops (putQ q 5 (datB 1)) [(5, v)]) w' := fun v wx hx => by
    refine (com24 wx hx.1 (by simp) (by simp)).mono ?_
    rintro e w' ⟨rfl, c, hA⟩
    exact ⟨rfl, hA, c.heap hx.2.1 (by decide), Cs.chg0 hx.2.2 c (Nat.le_refl _)⟩
  have hFl : ∀ v wx, W24 w1 K G d (A3 w1.heap.size d ops (putQ q 5 (datB 1)) [(5, v)]) wx → Calls Tryz.prog 14 #[.pointer (some ⟨d.P, 0, none⟩)] wx fun e w' => e = .returned (.int .i64 0) ∧ W24 w1 K G d (A4 d [(5, datB 1)]) w' := fun v wx hx => by
    refine (flu24 wx hx.1 H2.out.2.2.2).mono ?_
    rintro e w' ⟨rfl, c, hA⟩
    rw [putsL_one, show putQ q 5 (datB 1) 5 = datB 1 by simp [putQ]] at hA
    exact ⟨rfl, hA, c.heap hx.2.1 (by decide), Cs.chg0 hx.2.2 c (Nat.le_refl _)⟩
  have f1' : ∀ {v : Value} a b, A1 w1.heap.size d ops (putQ q 5 (datB 1)) [(5, v)] a → Chg [] a b → A1 w1.heap.size d ops (putQ q 5 (datB 1)) [(5, v)] b := fun a b h k => h.keep k
  have f3 : ∀ {v : Value} a b, A3 w1.heap.size d ops (putQ q 5 (datB 1)) [(5, v)] a → Chg [] a b → A3 w1.heap.size d ops (putQ q 5 (datB 1)) [(5, v)] b := fun a b h k => h.keep k
  have HWr := Lib.hid hWr
  have HCo := Lib.hid hCo
  have HFl := Lib.hid hFl
  clear hWr hCo hFl hA3 cs3 c1 HB
  have p3 := h3.p
  have p3d : w3.drew.cell? ⟨K, 1, none⟩ = some (.pointer (some ⟨d.P, 0, none⟩)) := p3
  go_wp2_with fail
  go_region_held3 (fun wx => wx.cell? ⟨K, 1, none⟩ = some (.pointer (some ⟨d.P, 0, none⟩)))
    (first
      | (exact p3)
      | (exact p3d)
      | (exact pA _)
      | (exact p5)
      | (exact p5d)
      | (exact p6)
      | (exact p6d)
      | (exact p7)
      | (exact p7d))
    (first
      | (go_at_call 11; refine (data1 _).mono ?_; rintro e w4 ⟨D, rfl, k4, lD, hF⟩; have h4 : W24 w1 K G d (A1 w1.heap.size d ops q []) w4 := (by first | exact h3.keep f1 k4 | exact h3.keep f1 ((Chg.refl [] w3).drew.then k4)); have p3 := h4.p; have p3d : w4.drew.cell? ⟨K, 1, none⟩ = some (.pointer (some ⟨d.P, 0, none⟩)) := p3; have pA : ∀ o, (w4.alloc o).cell? ⟨K, 1, none⟩ = some (.pointer (some ⟨d.P, 0, none⟩)) := fun o => (Chg.alloc (S := []) w4 o).cell p3 (by simp))
      | (go_at_call 12; refine (HWr.out w4 D h4 hF _ _ _ (by first | exact Chg.alloc _ _ | exact (Chg.alloc _ _).drew | exact (Chg.refl [] _).drew.then_alloc _) (by first | exact heap_new _ _)).mono ?_; rintro e w5 ⟨rfl, v5, h5⟩; have p5 := h5.p; have p5d : w5.drew.cell? ⟨K, 1, none⟩ = some (.pointer (some ⟨d.P, 0, none⟩)) := p5)
      | (go_at_call 13; refine (HCo.out v5 _ (by first | exact h5 | exact h5.keep f1' (Chg.refl [] w5).drew)).mono ?_; rintro e w6 ⟨rfl, h6⟩; have p6 := h6.p; have p6d : w6.drew.cell? ⟨K, 1, none⟩ = some (.pointer (some ⟨d.P, 0, none⟩)) := p6)
      | (go_at_call 14; refine (HFl.out v5 _ (by first | exact h6 | exact h6.keep f3 (Chg.refl [] w6).drew)).mono ?_; rintro e w7 ⟨rfl, h7⟩; have p7 := h7.p; have p7d : w7.drew.cell? ⟨K, 1, none⟩ = some (.pointer (some ⟨d.P, 0, none⟩)) := p7))
  all_goals
    have n7 := h7.n
    obtain ⟨base, A, c, ops', Z, vs, gs, zs, hD, hgs, hz, hz6⟩ := h7.1
    have hz96 : ∀ j, j < 8 → (zs j).length ≤ 96 := fun j hj => by
      by_cases e : j = 6
      · subst e
        rw [hz6]
        simp [logL, batL_length]
      · rw [hz j e]
        simp
    have HCr := Lib.hid (crash_ok w7 hD.k hgs hz96 (pick_nil w7) (pick_nil w7))
    have H7 := Lib.hid (H2.out.1.then h7.2.2)
    have HZ := Lib.hid (And.intro hz hz6)
    clear h7 hD hgs hz hz6 hz96 h6 h5 h4 h3 p3 p3d pA p5 p5d p6 p6d p7 p7d hF k4 lD f1 f1' f3
    go_wp2_with fail
    refine HCr.out.mono ?_
    rintro e w8 ⟨N', A', c', Z', vs', rfl, k8, hD8, lN, lA, lZ⟩
    have HMt := Lib.hid (mount_one w8 (datB_length 1) hD8 ⟨by simp [cutZ, HZ.out.1], by simp [cutZ, HZ.out.1], by simp [cutZ, HZ.out.1]⟩ (by simp [cutZ, HZ.out.2]) k8 lN lZ)
    clear hD8 HCr HZ k8 lN lA lZ
    go_wp2_with fail
    refine HMt.out.mono ?_
    rintro e w9 ⟨P, S, M, X, rx, B, r, lo, Lv, pos, num, rfl, k9, hSt, hMg, hVe, hke, hle⟩
    have HDp := Lib.hid (sdump_ok w9 hSt hMg hVe hke hle)
    have HLa := Lib.hid (And.intro hSt hMg)
    have HEq := Lib.hid (ver_one hVe hke).2
    have H9 := Lib.hid (H7.out.then k9)
    clear HMt k9 hSt hMg hVe hke hle
    go_wp2_with fail
    refine HDp.out.mono ?_
    rintro e w10 ⟨v, rfl, k10, hp⟩
    rw [HEq.out] at hp
    obtain ⟨g, cap, gd, cd, hv, hcap, d0, d1, hb, -, -⟩ := hp.get 0 (by simp)
    have hv2 : v = .slice (some ⟨g, 0, none⟩) 1 cap := hv
    subst hv2
    have d0' : w10.cell? ⟨g, 0, none⟩ = some (.int .i64 5) := d0
    have d1' : w10.cell? ⟨g, 1, none⟩ = some (.slice (some ⟨gd, 0, none⟩) 40 cd) := d1
    have hb' : Bs w10 (some ⟨gd, 0, none⟩) (datB 1) := hb
    have hcap1 : 1 ≤ cap := hcap
    have kk : Chg [] w10 w10 := Chg.refl _ _
    have hh : ∀ wx, Chg [] w10 wx → wx.cell? ⟨g, 0, none⟩ = some (.int .i64 5) ∧ wx.cell? ⟨g, 1, none⟩ = some (.slice (some ⟨gd, 0, none⟩) 40 cd) := fun wx k => ⟨k.cell d0' (by simp), k.cell d1' (by simp)⟩
    have HH := Lib.hid hh
    have HBb := Lib.hid hb'
    have HK := Lib.hid k10
    clear hp hv hcap d0 d1 hb hb' hh HDp HEq
    go_wp2_with fail
    go_region_held3 (fun wx => wx.cell? ⟨g, 0, none⟩ = some (.int .i64 5) ∧ wx.cell? ⟨g, 1, none⟩ = some (.slice (some ⟨gd, 0, none⟩) 40 cd))
      (first
        | (exact HH.out _ kk)
        | (exact HH.out _ kk.drew))
      (first
        | (go_at_call 11; refine (data1 _).mono ?_; rintro e w11 ⟨D2, rfl, k11, lD2, hF2⟩; replace kk : Chg [] w10 w11 := (by first | exact kk.then k11 | exact kk.drew.then k11))
        | (go_at_call 21; refine (bytes_same _ (by first | exact HBb.out.chg kk | exact HBb.out.chg kk.drew) (by first | exact hF2.bs | exact hF2.bs.chg (Chg.refl [] w11).drew) (datB_length 1)).mono ?_; rintro e w12 ⟨rfl, k12⟩; replace kk : Chg [] w10 w12 := (by first | exact kk.then k12 | exact kk.drew.then k12))
        | (go_at_call 18; refine (slast_ok _ (by first | exact (HK.out.then kk).heap HLa.out.1 (by simp) | exact (HK.out.then kk.drew).heap HLa.out.1 (by simp)) (by first | exact (HK.out.then kk).heap HLa.out.2 (by simp) | exact (HK.out.then kk.drew).heap HLa.out.2 (by simp))).mono ?_; rintro e w13 ⟨rfl, rfl⟩))
    all_goals
      have HF := Lib.hid ((H9.out.then HK.out).then kk)
      clear kk k11 k12 hF2
      go_wp2_with fail
      go_ret
      exact ⟨rfl, HF.out⟩
end Go.Proofs.YtnelakpdmjfolaaGreat
namespace Go.Proofs.YtnelakpdmjfolaaGreat
open Go.RowKit Go.Lib

/-- block SB is a row of flags. -/
def SeenAt (w : World) (SB : Nat) (sn : List Bool) : Prop := w.heap[SB]? = some (.cells (sn.map Value.bool).toArray 4 (0, 0))
theorem SeenAt.cell {w : World} {SB : Nat} {sn : List Bool} (h : SeenAt w SB sn) {i : Nat} {b : Bool} (hi : sn[i]? = some b) : w.cell? ⟨SB, i, none⟩ = some (.bool b) := cell_is h i (by simp [hi])
theorem SeenAt.set {w : World} {SB : Nat} {sn : List Bool} (h : SeenAt w SB sn) (i : Nat) : SeenAt (w.setCell ⟨SB, i, none⟩ (.bool true)) SB (sn.set i true) := heap_set h i _ (by simp [List.map_set])
theorem make_seen (w : World) : (Instr.makeSlice 35 (.int .i64 258) (.int .i64 258)).run Tryz.prog w = .ok (.slice (some ⟨w.heap.size, 0, none⟩) 258 258) (w.alloc (.cells ((List.replicate 258 false).map Value.bool).toArray 4)) := by kernel_rfl
theorem seen_full {sn : List Bool} {x0 : Nat} (hl : sn.length = 258) (h : ∀ u, u < 258 → sn[(x0 + u) % 258]? = some true) : sn.count true = 258 := by
  rw [← hl, List.count_eq_length]
  intro b hb
  obtain ⟨i, hi, rfl⟩ := List.getElem_of_mem hb
  have h1 := h ((i + 258 - x0 % 258) % 258) (Nat.mod_lt _ (by decide))
  have h2 : (x0 + (i + 258 - x0 % 258) % 258) % 258 = i := by omega
  rw [h2, List.getElem?_eq_getElem hi] at h1
  exact (Option.some.inj h1).symm
theorem seen_one {sn : List Bool} {x : Nat} (h : sn[x]? = some false) : (sn.set x true).count true = sn.count true + 1 := by
  obtain ⟨hx, e⟩ := List.getElem?_eq_some_iff.1 h
  rw [List.count_set hx, e]
  simp
/-- what is gathered: j puts of unlike blocks, these and no others are flagged. -/
structure Gth (w : World) (lo SB j : Nat) (v : Value) (sn : List Bool) (l : List (Int × List UInt8)) : Prop where
  seen : SeenAt w SB sn
  len : sn.length = 258
  cnt : sn.count true = j
  row : PutsAt w lo v l
  num : l.length = j
  nodup : (l.map Prod.fst).Nodup
  keys : ∀ k ∈ l.map Prod.fst, ∃ i : Nat, k = i ∧ sn[i]? = some true
theorem Gth.keep {w w' : World} {lo SB j : Nat} {v : Value} {sn : List Bool} {l : List (Int × List UInt8)} (h : Gth w lo SB j v sn l) (hc : Chg [] w w') : Gth w' lo SB j v sn l :=
  ⟨hc.heap h.seen (by simp), h.len, h.cnt, h.row.keep0 hc, h.num, h.nodup, h.keys⟩
theorem Gth.in_ {w : World} {lo SB j : Nat} {v : Value} {sn : List Bool} {l : List (Int × List UInt8)} (h : Gth w lo SB j v sn l) : ∀ p ∈ l, 0 ≤ p.1 ∧ p.1 < 258 := fun p hp => by
  obtain ⟨i, e, hi⟩ := h.keys p.1 (List.mem_map.2 ⟨p, hp, rfl⟩)
  have := (List.getElem?_eq_some_iff.1 hi).1
  have := h.len
  rw [e]
  omega
/-- one block more is flagged; its put comes behind. -/
theorem Gth.step {w wa wb : World} {lo SB j x gd cd : Nat} {v v' : Value} {sn : List Bool} {l : List (Int × List UInt8)} {b : List UInt8} {xs : List Value} (h : Gth w lo SB j v sn l) (hx : sn[x]? = some false) (hs : SeenAt wa SB (sn.set x true))
    (hr : PutsAt wa lo v l) (hxs : ∀ i (h : i < l.length), xs[i * 2]? = some (.int .i64 l[i].1) ∧ ∃ g c, xs[i * 2 + 1]? = some (.slice (some ⟨g, 0, none⟩) 40 c) ∧ Bs wa (some ⟨g, 0, none⟩) l[i].2 ∧ l[i].2.length = 40 ∧ Bt wa g) (hxl : xs.length = l.length * 2)
    (ho : wb.ownsRow lo 41 2 v' (j + 1) (xs ++ [.int .i64 (x : Nat), .slice (some ⟨gd, 0, none⟩) 40 cd])) (kb : Chg v.ownBlock.toList wa wb) (hb : Bs wa (some ⟨gd, 0, none⟩) b) (hb4 : b.length = 40) (hbt : Bt wa gd) :
    Gth wb lo SB (j + 1) v' (sn.set x true) (l ++ [((x : Int), b)]) := by
  have hn : SB ∉ v.ownBlock.toList := fun hm => by
    obtain ⟨-, cs, hh⟩ := hr.block SB (by simpa using hm)
    rw [hs] at hh
    cases hh
  refine ⟨kb.heap hs hn, by simp [h.len], by rw [seen_one hx, h.cnt], PutsAt.push hxs hxl h.num.symm (fun g hg => (hr.block g hg).2) ho kb hb hb4 hbt, by simp [h.num], ?_, fun k hk => ?_⟩
  · rw [List.map_append, List.nodup_append]
    refine ⟨h.nodup, by simp, fun a ha c hc => ?_⟩
    obtain ⟨i, e, hi⟩ := h.keys a ha
    simp at hc
    intro e2
    have : i = x := by omega
    rw [this, hx] at hi
    cases hi
  · rw [List.map_append, List.mem_append] at hk
    have hxl := (List.getElem?_eq_some_iff.1 hx).1
    rcases hk with hk | hk
    · obtain ⟨i, e, hi⟩ := h.keys k hk
      refine ⟨i, e, ?_⟩
      rw [List.getElem?_set]
      split
      · rename_i e2
        exact absurd (e2 ▸ hx : sn[i]? = some false) (by rw [hi]; simp)
      · exact hi
    · simp at hk
      exact ⟨x, hk, by rw [List.getElem?_set_self hxl]⟩
theorem PutsAt.putsW {w : World} {lo g c : Nat} {l : List (Int × List UInt8)} (h : PutsAt w lo (.slice (some ⟨g, 0, none⟩) l.length c) l) : PutsW w g 0 l := fun i hi => by
  obtain ⟨g', cap', gd, cd, e, -, h1, h2, h3, h4, -⟩ := h.get i hi
  cases e
  exact ⟨by rw [Nat.zero_add]; exact h1, gd, 0, cd, by rw [Nat.zero_add]; exact h2, h3, h4⟩
set_option maxRecDepth 100000 in
theorem sblocks_sto (w : World) {lw : Nat} {d : Ids} {s : Gs} {g : Gd} (h : Sto w lw d s g) : Calls Tryz.prog 10 #[.pointer (some ⟨d.P, 0, none⟩)] w fun e w' => e = .returned (.int .i64 258) ∧ Chg [] w w' := by
  have c0 : w.cell? ⟨d.P, 0, none⟩ = some (.pointer (some ⟨d.N, 0, none⟩)) := cell_is h.store 0 rfl
  have HG := Lib.hid (geom_hdr w ⟨_, h.dev.hdr⟩)
  clear h
  go_enter Tryz.func10, Tryz.ntmps10
  go_wp2_with fail
  refine HG.out.mono ?_
  rintro e w1 ⟨rfl, hc1⟩
  go_wp2_with fail
  refine (cap_min w1).mono ?_
  rintro e w2 ⟨rfl, hc2⟩
  go_wp2_with fail
  go_ret
  exact ⟨rfl, hc1.then hc2⟩
theorem data_ij (w : World) (i j : Nat) (h : i + j ≤ 1000) : Calls Tryz.prog 11 #[.int .i64 ((i : Int) + (j : Int))] w fun e w' => ∃ g, e = .returned (.slice (some ⟨g, 0, none⟩) 40 40) ∧ Chg [] w w' ∧ w.heap.size ≤ g ∧ Fo w' g (datB (i + j)) := by
  have := data_ex w (i + j) h
  rw [Int.natCast_add] at this
  exact this
set_option maxRecDepth 100000 in
theorem steps_least (w : World) : Calls Tryz.prog 15 #[.agg #[.int .i64 8, .int .i64 96]] w fun e w' => e = .returned (.int .i64 16) ∧ Chg [] w w' := by
  have k0 : Chg [] w (w.alloc (.cells #[.int .i64 8, .int .i64 96] 24)) := Chg.alloc w _
  have h0 := heap_new w (.cells #[.int .i64 8, .int .i64 96] 24)
  have c0 := cell_is h0 0 rfl
  have c1 := cell_is h0 1 rfl
  go_enter Tryz.func15, Tryz.ntmps15
  go_wp2_with fail
  generalize w.alloc (.cells #[.int .i64 8, .int .i64 96] 24) = w1 at *
  refine (rmay_min w1).mono ?_
  rintro e w2 ⟨rfl, k2⟩
  have d0 := k2.cell c0 (by simp)
  have d1 := k2.cell c1 (by simp)
  clear c0 c1
  go_wp2_with fail
  go_ret
  exact ⟨rfl, k0.then k2⟩
end Go.Proofs.YtnelakpdmjfolaaGreat
namespace Go.Proofs.YtnelakpdmjfolaaGreat
open Go.RowKit Go.Lib

/-- where the law's rounds stand: behind i rounds, c calls. -/
def RI (w wr : World) (P G lw i c : Nat) : Prop := ∃ d s g q j, Rst wr lw d s g q j ∧ d.P = P ∧ j ≤ 12 * i + c ∧ (i : Int) ≤ s.last ∧ (c = 9 → g.pos = 0) ∧ wr.heap[G]? = some (.cells #[.int .i64 8, .int .i64 96] 24 (0, 0)) ∧ (G < lw ∧ w.heap.size ≤ lw) ∧ Chg [] w wr
set_option maxRecDepth 100000 in
set_option maxHeartbeats 16000000 in
theorem law3_in (w : World) {n size step : Nat} (hn : n ≤ 60) (hs0 : 1 ≤ size) (hs : size ≤ 16) (ht0 : 1 ≤ step) (ht : step ≤ 300) : Calls Tryz.prog 3 #[.int .i64 n, .int .i64 size, .int .i64 step] w fun e w' => e = .returned (.bool true) ∧ Chg [] w w' := by
  go_enter Tryz.func3, Tryz.ntmps3
  go_wp2_with fail
  refine (least24 w).mono ?_
  rintro e wa ⟨rfl, ka⟩
  have g0 : (wa.alloc (.cells #[.int .i64 8, .int .i64 96] 24)).heap[wa.heap.size]? = some (.cells #[.int .i64 8, .int .i64 96] 24 (0, 0)) := heap_new wa _
  have kg : Chg [] w (wa.alloc (.cells #[.int .i64 8, .int .i64 96] 24)) := ka.then_alloc _
  have HN := Lib.hid (And.intro hn (And.intro hs0 (And.intro hs (And.intro ht0 ht))))
  clear hn hs0 hs ht0 ht ka
  generalize hz0 : wa.heap.size = G at *
  have hGl : G + 1 = (wa.alloc (.cells #[.int .i64 8, .int .i64 96] 24)).heap.size := by simp [← hz0]
  have c0 : (wa.alloc (.cells #[.int .i64 8, .int .i64 96] 24)).cell? ⟨G, 0, none⟩ = some (.int .i64 8) := cell_is g0 0 rfl
  have c1 : (wa.alloc (.cells #[.int .i64 8, .int .i64 96] 24)).cell? ⟨G, 1, none⟩ = some (.int .i64 96) := cell_is g0 1 rfl
  go_wp2_with fail
  generalize wa.alloc (.cells #[.int .i64 8, .int .i64 96] 24) = wg at *
  refine (new_any2 wg).mono ?_
  rintro e w1 ⟨N, A, c, Z, rfl, k1, hD, hO, lN, lA, lZ, hAx, hZn⟩
  have g1 := k1.heap g0 (by simp)
  have hs1 := k1.size
  have hZl : ∀ z ∈ Z, z < w1.heap.size := fun z hz => by
    obtain ⟨j, hj, e⟩ := List.getElem_of_mem hz
    rw [← e]
    exact heap_lt (hD.2.2.2.2 j hj)
  have HM := Lib.hid (mount_any w1 hD hO hZl (by omega) (by omega))
  have HK := Lib.hid (And.intro kg (And.intro k1 (And.intro g1 (And.intro hO (And.intro lN (And.intro lZ (And.intro hAx (And.intro hZn (And.intro hGl hs1)))))))))
  clear c0 c1 g0 kg k1 g1 hD hO lN lA lZ hAx hZn hZl hz0 hs1
  go_wp2_with fail
  refine HM.out.mono ?_
  rintro e w2 ⟨P, S, M, X, rx, B, rb, r, rfl, hM, lP, lS, lM, lX, lrx, lB, lrb, lr, n1, n2, n3⟩
  have hRI : RI w w2 P G wg.heap.size 0 0 := by
    obtain ⟨kg, k1, g1, hO, lN, lZ, hAx, hZn, hGl, hs1⟩ := HK.out
    have k2 := hM.1
    have hX2 : ExAt w2 S N A Z := by
      obtain ⟨cs, hAx⟩ := hAx
      exact ⟨hM.2.2.2.1, ⟨cs, k2.heap hAx (by intro hm; rcases List.mem_cons.1 hm with e | hm; exact hO.1 e; exact hO.2.2 hm)⟩, hZn⟩
    have g2 := k2.heap g1 (by
      intro hm
      rcases List.mem_cons.1 hm with e | hm
      · omega
      · have := lZ _ hm; omega)
    have hs2 := k2.size
    have hSt := hM.sto (lw := wg.heap.size) hX2 n1 n2 n3 (by omega) (fun z hz => by have := lZ z hz; omega) (by omega)
    have kk : Chg [] w w2 := (kg.then k1).trans k2 (fun x hx hlt => by
      have hkg := kg.size
      rcases List.mem_cons.1 hx with e | hx
      · omega
      · have := lZ x hx; omega)
    exact ⟨_, _, _, _, 0, Rst.new hSt (by omega) (by omega), rfl, by omega, Int.le_refl _, fun h => (by cases h), g2, ⟨by omega, by have := kg.size; omega⟩, kk⟩
  have HR := Lib.hid hRI
  clear hRI hM lP lS lM lX lrx lB lrb lr n1 n2 n3 HK HM hGl
  generalize wg.heap.size = lw at *
  go_wp2_with fail
  go_loopw [12, 13, 14, 15, 16, 17, 18, 19, 20, 21, 22, 23] (fun a ii _ _ _ _ _ _ _ _ _ _ wr => ∃ i at_ : Nat, a = .int .i64 at_ ∧ at_ < 258 ∧ ii = .int .i64 i ∧ i ≤ n ∧ RI w wr P G lw i 0) (fun _ ii _ _ _ _ _ _ _ _ _ _ _ => n - (intOf ii).toNat)
  case atStart => exact ⟨0, 0, rfl, by decide, rfl, Nat.zero_le _, HR.out⟩
  case round =>
    obtain ⟨i, at_, rfl, hat, rfl, hi, hI⟩ := hrel
    rename World => wr
    clear HR
    by_cases hlt : i < n
    · go_wp2_with fail
      go_loopw [12, 14, 15, 16, 17, 18, 19, 20, 21, 22, 23] (fun a dn kv _ _ _ _ _ _ _ _ wr => ∃ k at_ : Nat, kv = .int .i64 k ∧ a = .int .i64 at_ ∧ at_ < 258 ∧ ((dn = .bool false ∧ k ≤ 1 ∧ RI w wr P G lw i (9 * k)) ∨ (dn = .bool true ∧ (k = 1 ∨ k = 2) ∧ RI w wr P G lw (i + 1) 0))) (fun _ _ kv _ _ _ _ _ _ _ _ _ => 2 - (intOf kv).toNat)
      case atStart => exact ⟨0, at_, rfl, rfl, hat, Or.inl ⟨rfl, by decide, hI⟩⟩
      case round =>
        obtain ⟨k, at2, rfl, rfl, hat2, ⟨rfl, hk, hI2⟩ | ⟨rfl, hk, hI2⟩⟩ := hrel
        · clear hI hat
          rename World => wr
          obtain ⟨d, s, g, q, j, hR, hdP, hj, hl, hpos, hG, hGl, kk⟩ := hI2
          have hB := rbegin wr hR (by omega)
          rw [hdP] at hB
          have HB := Lib.hid hB
          have HW := Lib.hid (And.intro hj (And.intro hl (And.intro hpos (And.intro hG (And.intro hGl kk)))))
          clear hB hR hj hl hpos hG kk
          go_wp2_with fail
          refine HB.out.mono ?_
          rintro e w3 ⟨rfl, d', ⟨hdP', hdN'⟩, hO, kp⟩
          have hBl : ∀ wx, Chg [] w3 wx → Calls Tryz.prog 10 #[.pointer (some ⟨P, 0, none⟩)] wx fun e w' => e = .returned (.int .i64 258) ∧ Chg [] wx w' := fun wx kx => by
            rw [← hdP']
            exact sblocks_sto wx (lw := lw) (s := begS s d'.T) (g := g) (hO.keep kx).su.env
          have HBl := Lib.hid hBl
          have HO := Lib.hid (And.intro hO kp)
          obtain ⟨B0, hB0⟩ : ∃ B0 : Array Value, B0 = ((List.replicate 258 false).map Value.bool).toArray := ⟨_, rfl⟩
          have hmk := make_seen
          rw [← hB0] at hmk
          have HB0 := Lib.hid hB0
          clear hBl hO kp HB hB0
          go_wp2_with fail
          refine (HBl.out w3 (Chg.refl _ _)).mono ?_
          rintro e w4 ⟨rfl, k4⟩
          go_wp2_with fail
          have hG0 : Gth (w4.alloc (.cells B0 4)) (w4.alloc (.cells B0 4)).heap.size w4.heap.size 0 (.slice none 0 0) (List.replicate 258 false) [] := by
            refine ⟨?_, by simp, by simp, PutsAt.nil _ _, rfl, by simp, fun k hk => by cases hk⟩
            have h := heap_new w4 (.cells B0 4)
            rw [HB0.out] at h ⊢
            exact h
          have k5 : Chg [] w3 (w4.alloc (.cells B0 4)) := k4.then_alloc _
          have hSB : w3.heap.size ≤ w4.heap.size := k4.size
          have hSB2 : w4.heap.size < (w4.alloc (.cells B0 4)).heap.size := by simp
          have H5 := Lib.hid (And.intro hG0 (And.intro k5 (And.intro hSB hSB2)))
          clear hG0 k5 hSB hSB2 k4 hmk HB0
          generalize w4.alloc (.cells B0 4) = w5 at *
          generalize w4.heap.size = SB at *
          clear w4
          go_loopw [19, 20, 21] (fun v xv jv wr => ∃ j x : Nat, xv = .int .i64 x ∧ x < 258 ∧ jv = .int .i64 j ∧ j ≤ size ∧ (∃ sn l, Gth wr w5.heap.size SB j v sn l) ∧ Chg [SB] w5 wr) (fun _ _ jv _ => size - (intOf jv).toNat)
          case atStart => exact ⟨0, at2, rfl, hat2, rfl, Nat.zero_le _, ⟨_, _, H5.out.1⟩, Chg.refl _ _⟩
          case round =>
            obtain ⟨jj, x, rfl, hx, rfl, hjj, ⟨sn, l, hGt⟩, kr⟩ := hrel
            rename World => wq
            by_cases hjl : jj < size
            · obtain ⟨pv, cv, rfl⟩ : ∃ pv cv, u19 = .slice pv jj cv := by
                obtain ⟨xs, ho, -⟩ := hGt.row
                obtain ⟨pv, cv, e, -⟩ := own_form ho
                exact ⟨pv, cv, by rw [e, hGt.num]⟩
              have HG := Lib.hid (And.intro hGt kr)
              have hlen := hGt.len
              have hji : (jj : Int) < size := by omega
              clear hGt kr
              go_wp2_with fail
              go_loopw [20] (fun xv wr => ∃ t y : Nat, t < 258 ∧ y = (x + t) % 258 ∧ xv = .int .i64 y ∧ (∀ u, u < t → sn[(x + u) % 258]? = some true) ∧ Chg [] wq wr) (fun xv _ => 258 - (((intOf xv).toNat + 258 - x) % 258))
              case atStart => exact ⟨0, x, by decide, by omega, rfl, fun u hu => by omega, Chg.refl _ _⟩
              case round =>
                obtain ⟨t, y, ht, hy, rfl, hall, kr⟩ := hrel
                have hyl : y < 258 := by omega
                obtain ⟨b, hb⟩ : ∃ b, sn[y]? = some b := ⟨_, List.getElem?_eq_getElem (by omega)⟩
                have hGr := HG.out.1.keep kr
                have hc := hGr.seen.cell hb
                have HT := Lib.hid (And.intro ht (And.intro hy (And.intro hall (And.intro hb kr))))
                clear ht hy hall
                cases b
                · have hf : wr.frozen? ⟨SB, y, none⟩ = false := unfrozen hGr.seen y
                  have HGr := Lib.hid hGr
                  clear hGr hb kr
                  go_wp2_with fail
                  have kS : Chg [SB] wr (wr.setCell ⟨SB, y, none⟩ (.bool true)) := Chg.set wr SB y _
                  have hS1 := HGr.out.seen.set y
                  have hR1 : PutsAt (wr.setCell ⟨SB, y, none⟩ (.bool true)) w5.heap.size (.slice pv jj cv) l := HGr.out.row.keep kS (Av.row HGr.out.seen (by decide)) (fun g hg hm => by
                    obtain ⟨-, cs, hh⟩ := HGr.out.row.block g hg
                    rw [List.mem_singleton] at hm
                    subst hm
                    have := HGr.out.seen
                    unfold SeenAt at this
                    rw [this] at hh
                    cases hh)
                  have hdt := data_ij (wr.setCell ⟨SB, y, none⟩ (.bool true)) i jj (by omega)
                  have H1 := Lib.hid (And.intro kS (And.intro hS1 hR1))
                  clear kS hS1 hR1 hf hc
                  generalize wr.setCell ⟨SB, y, none⟩ (.bool true) = ws at *
                  refine hdt.mono ?_
                  rintro e w7 ⟨gd, rfl, k7, lgd, hF⟩
                  clear hdt
                  obtain ⟨xs, ho, hxs⟩ := H1.out.2.2.keep0 k7
                  have hnum := HG.out.1.num
                  rw [hnum] at ho
                  have hs7 : w5.heap.size ≤ w7.heap.size := by
                    have h1 := HG.out.2.size
                    have h2 := HT.out.2.2.2.2.size
                    have h3 := H1.out.1.size
                    have h4 := k7.size
                    omega
                  have HX := Lib.hid (And.intro hxs (And.intro k7 hF))
                  have Hho := Lib.hid ho
                  clear hxs k7 hF ho lgd
                  have hj1 : jj + 1 ≤ 1000000000 := by omega
                  go_wp2_with (at_builtin; refine wpList_append_lit rfl (.tmp 111) (.tmp 118) 37 41 rfl ty69 inf92 rfl (by decide) w5.heap.size w7 [.int .i64 y, .slice (some ⟨gd, 0, none⟩) 40 40] 1 rfl (.slice pv jj cv) jj xs rfl Hho.out hj1 (by decide) hs7 (k := 0) rfl (by simp [Value.oneCell']) rfl 1 rfl ?_; intro v' w8 hap)
                  have hown := Hho.out
                  have kb : Chg (Value.slice pv jj cv).ownBlock.toList w7 w8 := Chg.own hap.2.2 (fun g hg _ => by simp [hg])
                  have hG8 : Gth w8 w5.heap.size SB (jj + 1) v' (sn.set y true) (l ++ [((y : Int), datB (i + jj))]) := by
                    obtain ⟨hxs, k7, hF⟩ := HX.out
                    exact HGr.out.step HT.out.2.2.2.1 (k7.heap H1.out.2.1 (by simp)) (H1.out.2.2.keep0 k7) hxs (by rw [hnum]; exact hown.1) hap.1 kb hF.bs hF.1 ⟨_, hF.2⟩
                  have k58 : Chg [SB] w5 w8 := by
                    obtain ⟨hxs, k7, hF⟩ := HX.out
                    refine ((((HG.out.2.then (HT.out.2.2.2.2.mono (fun z hz _ => by cases hz))).then H1.out.1).then (k7.mono (fun z hz _ => by cases hz)))).trans kb (fun z hz hlt => ?_)
                    have := (own_elem hown (show (Value.slice pv jj cv).ownBlock = some z by simpa using hz)).1
                    omega
                  have HBl2 := Lib.hid (HBl.out w8 (H5.out.2.1.trans k58 (fun z hz hlt => by rw [List.mem_singleton] at hz; have := H5.out.2.2.1; omega)))
                  obtain ⟨pv', cv', rfl⟩ : ∃ pv cv, v' = .slice pv (jj + 1) cv := by
                    obtain ⟨pv, cv, e, -⟩ := own_form hap.1
                    exact ⟨pv, cv, e⟩
                  have HE := Lib.hid (And.intro hG8 k58)
                  clear hG8 k58 kb hap hown hs7 hj1
                  have hst : (step : Int) ≤ 300 := by have := HN.out.2.2.2.2; omega
                  have hst0 : (0 : Int) ≤ step := by omega
                  go_wp2_with fail
                  refine HBl2.out.mono ?_
                  rintro e w9 ⟨rfl, k9⟩
                  obtain ⟨y3, hy3⟩ : ∃ y3, y3 = (y + step) % 258 := ⟨_, rfl⟩
                  have hr3 : ((y : Int) + (step : Nat)).tmod 258 = (y3 : Nat) := by
                    rw [Int.tmod_eq_emod_of_nonneg (by omega)]
                    omega
                  clear HBl2
                  go_wp2_with fail
                  go_roundw
                  case rel => exact ⟨jj + 1, y3, by rw [show ((y : Int) + (step : Nat)) % 258 = (y3 : Nat) by omega], by omega, by go_num, by omega, ⟨_, _, HE.out.1.keep k9⟩, HE.out.2.then (k9.mono (fun z hz _ => by cases hz))⟩
                  case measure => simp [intOf]; omega
                · have HBl2 := Lib.hid (HBl.out wr ((H5.out.2.1.trans HG.out.2 (fun z hz hlt => by rw [List.mem_singleton] at hz; have := H5.out.2.2.1; omega)).then kr))
                  clear hGr hb
                  go_wp2_with fail
                  refine HBl2.out.mono ?_
                  rintro e w6 ⟨rfl, k6⟩
                  obtain ⟨y2, hy2⟩ : ∃ y2, y2 = (y + 1) % 258 := ⟨_, rfl⟩
                  have hr1 : ((y : Int) + 1).tmod 258 = (y2 : Nat) := by
                    rw [Int.tmod_eq_emod_of_nonneg (by omega)]
                    omega
                  clear hc HBl2
                  go_wp2_with fail
                  go_roundw
                  case rel =>
                    obtain ⟨ht, hy, hall, hb, kr⟩ := HT.out
                    have hall2 : ∀ u, u < t + 1 → sn[(x + u) % 258]? = some true := fun u hu => by
                      by_cases e : u = t
                      · rw [e, ← hy]; exact hb
                      · exact hall u (by omega)
                    have ht2 : t + 1 < 258 := by
                      rcases Nat.lt_or_ge (t + 1) 258 with h | h
                      · exact h
                      · have h1 := seen_full hlen (x0 := x) (fun u hu => hall2 u (by omega))
                        have h2 := HG.out.1.cnt
                        have h3 := HN.out.2.2.1
                        omega
                    exact ⟨t + 1, y2, ht2, by omega, by rw [show ((y : Int) + 1) % 258 = (y2 : Nat) by omega], hall2, kr.then k6⟩
                  case measure =>
                    obtain ⟨ht, hy, hall, hb, kr⟩ := HT.out
                    have ht2 : t + 1 < 258 := by
                      rcases Nat.lt_or_ge (t + 1) 258 with h | h
                      · exact h
                      · have h1 := seen_full hlen (x0 := x) (fun u hu => by
                          by_cases e : u = t
                          · rw [e, ← hy]; exact hb
                          · exact hall u (by omega))
                        have h2 := HG.out.1.cnt
                        have h3 := HN.out.2.2.1
                        omega
                    simp only [intOf, Int.toNat_natCast]
                    omega
            · have hse : size = jj := by omega
              subst hse
              have hs1 : 1 ≤ size := HN.out.2.1
              have hs16 : size ≤ 16 := HN.out.2.2.1
              obtain ⟨E, cp, rfl⟩ : ∃ E cp, u19 = .slice (some ⟨E, 0, none⟩) size cp := by
                obtain ⟨g', cap', gd, cd, e, -⟩ := hGt.row.get 0 (by rw [hGt.num]; omega)
                exact ⟨g', cap', by rw [e, hGt.num]⟩
              have k3q : Chg [] w3 wq := H5.out.2.1.trans kr (fun z hz hlt => by rw [List.mem_singleton] at hz; have := H5.out.2.2.1; omega)
              have hOq := HO.out.1.keep k3q
              have hrow := hGt.row
              rw [← hGt.num] at hrow
              have hWr := rwrite wq (cp := cp) hOq hrow.putsW hGt.num (by omega) hGt.nodup hGt.in_ (by simp; omega)
              rw [hdP'] at hWr
              have HWr := Lib.hid hWr
              have HK := Lib.hid (HO.out.2.trans (Kp.of_chg k3q))
              clear hWr hOq hrow hGt k3q kr
              go_wp2_with fail
              refine HWr.out.mono ?_
              rintro e w6 ⟨rfl, kp6, L', hO6, hL0, hL1⟩
              have hCo := rcommit w6 (m := size) hO6 hL0 (by simpa using hL1) hs16 (by have := HW.out.1; omega)
              rw [hdP'] at hCo
              have HCo := Lib.hid hCo
              have HK6 := Lib.hid (HK.out.trans kp6)
              clear hCo hO6 hL0 hL1 kp6 HWr HK
              go_wp2_with fail
              refine HCo.out.mono ?_
              rintro e w7 ⟨rfl, hWt, kp7⟩
              have hFl := rflush w7 hWt (by have := HW.out.1; omega)
              rw [hdP'] at hFl
              have HFl := Lib.hid hFl
              have HK7 := Lib.hid (HK6.out.trans kp7)
              clear hFl hWt kp7 HCo HK6
              go_wp2_with fail
              refine HFl.out.mono ?_
              rintro e w8 ⟨⟨rfl, s', dv, kk', l', hR8, hlast⟩ | ⟨rfl, hfull, s', hR8, hlast⟩, kp8⟩
              · have HR8 := Lib.hid (And.intro hR8 (And.intro hlast (HK7.out.trans kp8)))
                clear hR8 hlast kp8 HFl HK7
                go_wp2_with fail
                go_roundw
                case rel =>
                  obtain ⟨hj, hl, -, hG, hGl, kk⟩ := HW.out
                  obtain ⟨hR8, hlast, kp8⟩ := HR8.out
                  exact ⟨k + 1, x, by go_num, rfl, hx, Or.inr ⟨rfl, by omega, d', s', _, _, _, hR8, hdP', by omega, by omega, fun h => (by cases h), kp8.heap hG hGl.1, hGl, Kp.chg0 kk kp8 hGl.2⟩⟩
                case measure => simp [intOf]; omega
              · have hk0 : k = 0 := by
                  have h1 := HW.out.2.2.1
                  rcases Nat.lt_or_ge 0 k with h | h
                  · have := h1 (by omega)
                    omega
                  · omega
                subst hk0
                have HR8 := Lib.hid (And.intro hR8 (And.intro hlast (And.intro hfull (HK7.out.trans kp8))))
                clear hR8 hlast hfull kp8 HFl HK7
                go_wp2_with fail
                have hRI : RI w w8 P G lw i 1 := by
                  obtain ⟨hj, hl, -, hG, hGl, kk⟩ := HW.out
                  obtain ⟨hR8, hlast, -, kp8⟩ := HR8.out
                  exact ⟨d', s', _, _, _, hR8, hdP', by omega, by omega, fun h => (by cases h), kp8.heap hG hGl.1, hGl, Kp.chg0 kk kp8 hGl.2⟩
                have HRI := Lib.hid hRI
                clear hRI HR8
                go_loopw [23] (fun v wr => ∃ t y : Nat, t ≤ 8 ∧ y = 2 * t ∧ v = .int .i64 y ∧ RI w wr P G lw i (1 + t)) (fun v _ => 16 - (intOf v).toNat)
                case atStart => exact ⟨0, 0, by decide, rfl, rfl, HRI.out⟩
                case round =>
                  obtain ⟨t, y, ht, hy, rfl, hI3⟩ := hrel
                  rename World => wt
                  clear HRI
                  obtain ⟨d2, s2, g2, q2, j2, hR2, hdP2, hj2, hl2, hpos2, hG2, hGl2, kk2⟩ := hI3
                  have c0 : wt.cell? ⟨G, 0, none⟩ = some (.int .i64 8) := cell_is hG2 0 rfl
                  have c1 : wt.cell? ⟨G, 1, none⟩ = some (.int .i64 96) := cell_is hG2 1 rfl
                  have HT := Lib.hid (And.intro hR2 (And.intro hG2 (And.intro kk2 (And.intro hpos2 (And.intro hj2 (And.intro ht hy))))))
                  clear hR2 hG2 kk2 hpos2 hj2 ht
                  go_wp2_with fail
                  refine (steps_least wt).mono ?_
                  rintro e w9 ⟨rfl, k9⟩
                  by_cases h8 : t = 8
                  · subst h8
                    obtain rfl : y = 16 := by omega
                    have HE := Lib.hid (show RI w w9 P G lw i 9 from by
                      obtain ⟨hR2, hG2, kk2, hpos2, hj2, -⟩ := HT.out
                      exact ⟨d2, s2, g2, q2, j2, hR2.keep k9, hdP2, by omega, hl2, fun _ => hpos2 rfl, k9.heap hG2 (by simp), hGl2, kk2.then k9⟩)
                    clear k9 c0 c1 HT
                    go_wp2_with fail
                    go_roundw
                    case rel => exact ⟨1, at2, rfl, rfl, hat2, Or.inl ⟨rfl, by decide, HE.out⟩⟩
                    case measure => simp [intOf]
                  · have hy16 : (y : Int) < 16 := by have := HT.out.2.2.2.2.2; omega
                    have hCk := rcheck w9 (HT.out.1.keep k9) (by have := HT.out.2.2.2.2; omega)
                    rw [hdP2] at hCk
                    have HCk := Lib.hid hCk
                    have HK9 := Lib.hid k9
                    clear hCk k9 c0 c1
                    go_wp2_with fail
                    refine HCk.out.mono ?_
                    rintro e w10 ⟨rfl, ⟨g3, hR3, hp3⟩, kp3⟩
                    have hCl := rclean w10 hR3
                    rw [hdP2] at hCl
                    have HCl := Lib.hid hCl
                    have HK10 := Lib.hid (And.intro hp3 kp3)
                    clear hCl hR3 hp3 kp3 HCk
                    go_wp2_with fail
                    refine HCl.out.mono ?_
                    rintro e w11 ⟨⟨nn, rfl⟩, ⟨s4, hR4, hl4⟩, kp4⟩
                    have HE := Lib.hid (show RI w w11 P G lw i (1 + (t + 1)) from by
                      obtain ⟨hR2, hG2, kk2, hpos2, hj2, ht, hy⟩ := HT.out
                      have kp := HK10.out.2.trans kp4
                      exact ⟨d2, s4, g3, q2, j2 + 1, hR4, hdP2, by omega, by omega, fun _ => HK10.out.1, kp.heap (HK9.out.heap hG2 (by simp)) hGl2.1, hGl2, Kp.chg0 (kk2.then HK9.out) kp hGl2.2⟩)
                    have HTt := Lib.hid HT.out.2.2.2.2.2
                    clear hR4 hl4 kp4 HCl HK10 HK9 HT
                    go_wp2_with fail
                    go_roundw
                    case rel => exact ⟨t + 1, y + 2, by have := HTt.out; omega, by have := HTt.out; omega, by go_num, HE.out⟩
                    case measure => have := HTt.out; simp [intOf]; omega
        · rcases hk with rfl | rfl
          all_goals
            clear hI hat
            go_wp2_with fail
            go_roundw
            case rel => exact ⟨i + 1, at2, rfl, hat2, by go_num, by omega, hI2⟩
            case measure => simp [intOf]; omega
    · obtain rfl : i = n := by omega
      obtain ⟨d, s, g, q, j, hR, rfl, hj, hl, -, hG, hGl, kk⟩ := hI
      have HL := Lib.hid (rlast wr hR)
      have HK := Lib.hid kk
      clear hR hG kk
      go_wp2_with fail
      refine HL.out.mono ?_
      rintro e w3 ⟨rfl, rfl⟩
      go_wp2_with fail
      refine (awake24 _).mono ?_
      rintro e w4 ⟨rfl, k4⟩
      have HF := Lib.hid (HK.out.then k4)
      clear k4 HK HL
      go_wp2_with fail
      go_ret
      exact ⟨rfl, HF.out⟩
end Go.Proofs.YtnelakpdmjfolaaGreat
namespace Go.Proofs.YtnelakpdmjfolaaGreat
open Go.ChangeShapes Go.WideShapes Go.ChangeAt Go.RowKit Go.Deep Go.Joins
set_option maxRecDepth 100000

theorem ownk : ownKnob Tryz.prog.godebug = none := by kernel_rfl
/-- what a contract with 'Below' gives of a row's sentence. -/
theorem post_below {H : Type} {enc : TypeId × Value → H} {f : Func} {s : ChangeSpec} {W W' : World} {args : Array Value} {v : Value} {ds gs : List (DataW H)} {before pa pv : List MemPlace} (hb : Below W.heap.size W W')
    (hW : DataW.Whole enc Tryz.prog f.params.toList s.vars false W args.toList ds gs before)
    (hres : DataW.TrodAll enc Tryz.prog W' W.heap.size (fun _ => false) false f.resultTypes.toList (v.resultList f.resultTypes.size) (s.fn H (ds ++ gs)).results [])
    (hargs : DataW.TrodAll enc Tryz.prog W' 0 (fun b => decide (b < W.heap.size)) true f.params.toList args.toList (s.fn H (ds ++ gs)).args pa)
    (hvars : DataW.TrodVars enc Tryz.prog W' (fun b => decide (b < W.heap.size)) s.vars (s.fn H (ds ++ gs)).vars pv) :
    s.post enc Tryz.prog f false true false false W args v W' :=
  ⟨ds, gs, before, [], pa, pv, hW, hres, hargs, hvars, hb.frame _, fun h => by cases h⟩

end Go.Proofs.YtnelakpdmjfolaaGreat
namespace Go.Proofs.YtnelakpdmjfolaaGreat
open Go.ChangeShapes Go.WideShapes Go.ChangeAt Go.RowKit Go.Deep Go.Joins Go.Lib
set_option maxRecDepth 100000
set_option maxHeartbeats 2000000 in
theorem law3_far (w : World) {x y z : Int} (h : x < 0 ∨ 60 < x ∨ y < 1 ∨ 16 < y ∨ z < 1 ∨ 300 < z) : Calls Tryz.prog 3 #[.int .i64 x, .int .i64 y, .int .i64 z] w fun e w' => e = .returned (.bool true) ∧ Chg [] w w' := by
  have HA := Lib.hid (awake24 w)
  by_cases h1 : x < 0
  · have d1 : decide (x < 0) = true := decide_eq_true h1
    clear h
    go_enter Tryz.func3, Tryz.ntmps3
    go_wp2_with fail
    refine HA.out.mono ?_
    rintro e w1 ⟨rfl, k⟩
    have HK := Lib.hid k
    clear k
    go_wp2_with fail
    go_ret
    exact ⟨rfl, HK.out⟩
  have d1 : decide (x < 0) = false := decide_eq_false h1
  by_cases h2 : 60 < x
  · have d2 : decide (60 < x) = true := decide_eq_true h2
    clear h
    go_enter Tryz.func3, Tryz.ntmps3
    go_wp2_with fail
    refine HA.out.mono ?_
    rintro e w1 ⟨rfl, k⟩
    have HK := Lib.hid k
    clear k
    go_wp2_with fail
    go_ret
    exact ⟨rfl, HK.out⟩
  have d2 : decide (60 < x) = false := decide_eq_false h2
  by_cases h3 : y < 1
  · have d3 : decide (y < 1) = true := decide_eq_true h3
    clear h
    go_enter Tryz.func3, Tryz.ntmps3
    go_wp2_with fail
    refine HA.out.mono ?_
    rintro e w1 ⟨rfl, k⟩
    have HK := Lib.hid k
    clear k
    go_wp2_with fail
    go_ret
    exact ⟨rfl, HK.out⟩
  have d3 : decide (y < 1) = false := decide_eq_false h3
  by_cases h4 : 16 < y
  · have d4 : decide (16 < y) = true := decide_eq_true h4
    clear h
    go_enter Tryz.func3, Tryz.ntmps3
    go_wp2_with fail
    refine HA.out.mono ?_
    rintro e w1 ⟨rfl, k⟩
    have HK := Lib.hid k
    clear k
    go_wp2_with fail
    go_ret
    exact ⟨rfl, HK.out⟩
  have d4 : decide (16 < y) = false := decide_eq_false h4
  by_cases h5 : z < 1
  · have d5 : decide (z < 1) = true := decide_eq_true h5
    clear h
    go_enter Tryz.func3, Tryz.ntmps3
    go_wp2_with fail
    refine HA.out.mono ?_
    rintro e w1 ⟨rfl, k⟩
    have HK := Lib.hid k
    clear k
    go_wp2_with fail
    go_ret
    exact ⟨rfl, HK.out⟩
  have d5 : decide (z < 1) = false := decide_eq_false h5
  have h6 : 300 < z := by omega
  have d6 : decide (300 < z) = true := decide_eq_true h6
  clear h
  go_enter Tryz.func3, Tryz.ntmps3
  go_wp2_with fail
  refine HA.out.mono ?_
  rintro e w1 ⟨rfl, k⟩
  have HK := Lib.hid k
  clear k
  go_wp2_with fail
  go_ret
  exact ⟨rfl, HK.out⟩
theorem law3_any (w : World) {x y z : Int} : Calls Tryz.prog 3 #[.int .i64 x, .int .i64 y, .int .i64 z] w fun e w' => e = .returned (.bool true) ∧ Chg [] w w' := by
  by_cases h : x < 0 ∨ 60 < x ∨ y < 1 ∨ 16 < y ∨ z < 1 ∨ 300 < z
  · exact law3_far w h
  · obtain ⟨f, rfl⟩ : ∃ k : Nat, x = k := ⟨x.toNat, by omega⟩
    obtain ⟨k, rfl⟩ : ∃ k : Nat, y = k := ⟨y.toNat, by omega⟩
    obtain ⟨m, rfl⟩ : ∃ k : Nat, z = k := ⟨z.toNat, by omega⟩
    exact law3_in w (by omega) (by omega) (by omega) (by omega) (by omega)
namespace Law3
theorem contract (H : Type) (enc : TypeId × Value → H) (W : World) (base : Nat) (args : Array Value) (ds gs : List (DataW H)) (before : List MemPlace)
    (hval : ∀ (j : Nat) t v, Tryz.f3.params[j]? = some t → args[j]? = some v → Value.okWide Tryz.prog W .any base t v)
    (hW : DataW.Whole enc Tryz.prog Tryz.f3.params.toList Rows.storeRoomSpec.vars false W args.toList ds gs before) :
    Calls Tryz.prog 3 args W fun e W' => ∃ v, e = .returned v ∧ Rows.storeRoomSpec.post enc Tryz.prog Tryz.f3 false true false false W args v W' := by
  have hW' := hW
  obtain ⟨p, q, hA0, hV, rfl, hfz, hnd⟩ := hW
  have hA : DataW.TrodAll enc Tryz.prog W 0 (fun _ => true) true Tryz.f3.params.toList args.toList ds p := hA0
  rw [Tryz.params3] at hA hval
  obtain ⟨v0, vs0, d0, ds0, p0, q0, hargs, rfl, rfl, h0, r0⟩ := trodAll_cons hA
  obtain ⟨v1, vs1, d1, ds1, p1, q1, rfl, rfl, rfl, h1, r1⟩ := trodAll_cons r0
  obtain ⟨v2, vs2, d2, ds2, p2, q2, rfl, rfl, rfl, h2, r2⟩ := trodAll_cons r1
  obtain ⟨rfl, rfl, rfl⟩ := trodAll_nil r2
  obtain rfl : args = #[v0, v1, v2] := by cases args; simp_all
  obtain ⟨rfl, rfl⟩ := trodVars_none hV
  obtain ⟨a0, rfl, rfl, rfl, w0⟩ := open_int Tryz.underlying3 (hval 0 3 v0 rfl rfl) h0
  obtain ⟨a1, rfl, rfl, rfl, w1⟩ := open_int Tryz.underlying3 (hval 1 3 v1 rfl rfl) h1
  obtain ⟨a2, rfl, rfl, rfl, w2⟩ := open_int Tryz.underlying3 (hval 2 3 v2 rfl rfl) h2
  refine (law3_any W).mono fun e W' ⟨he, hc⟩ => ?_
  subst he
  exact ⟨_, rfl, post_below hc.below0 hW' (trodAll_mk1 (shut_bool Tryz.underlying4 _)) (trodAll_cons_mk (shut_int Tryz.underlying3 w0) (trodAll_cons_mk (shut_int Tryz.underlying3 w1) (trodAll_cons_mk (shut_int Tryz.underlying3 w2) trodAll_mk0))) rfl⟩
theorem lifted (os : Os) (started : os.Started) (H : Type) (enc : TypeId × Value → H) :
    ReturnsInHanded {} Tryz.checked os 3 .any (Rows.storeRoomSpec.pre6 enc Tryz.prog Tryz.f3 Rows.storeRoomRow.domain false) (Rows.storeRoomSpec.post enc Tryz.prog Tryz.f3 false true false false) := by
  refine returnsInHanded_of_change (C := Tryz.checked) ownk started (by kernel_rfl) Tryz.func3
    (ChangeSpec.witness6 (enc := enc) (C := Tryz.checked) false ⟨#[], #[.int .i64 0, .int .i64 0, .int .i64 0], []⟩ 8 (by kernel_rfl) (by kernel_rfl) (by kernel_rfl) (by kernel_rfl)) ?_
  intro W base args ds gs before hval0 hW hcnd _
  exact contract H enc W base args ds gs before hval0 hW
theorem over : Rows.storeRoomRow.holds Tryz.pinned (OpenSpec.ofChange Rows.storeRoomSpec) :=
  OpenClaim.holds_of_wide 3 Tryz.f3 rfl rfl rfl rfl rfl rfl rfl ⟨rfl, rfl, rfl, rfl, rfl⟩ rfl rfl rfl rfl rfl (by kernel_rfl) Tryz.func3 (by kernel_rfl)
    (of_decide_eq_true (by kernel_rfl)) (by unfold Func.isWrapper; first | (rw [if_pos (by decide +kernel)]; kernel_rfl) | (rw [if_neg (by decide +kernel)]; exact ⟨rfl, rfl⟩))
    (fun os started H enc _ => lifted os started H enc)
theorem said : Rows.StoreRoomSaid := over
end Law3
end Go.Proofs.YtnelakpdmjfolaaGreat
