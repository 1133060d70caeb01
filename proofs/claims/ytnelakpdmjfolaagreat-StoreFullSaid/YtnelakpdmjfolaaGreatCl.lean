/- Lemmas and walks: A store at rest, with one open transaction, with one that waits: whatever blocks it has: begin, write, commit, flush (with room, and without), checkpoint, clean, in few words. Walks: what a crash leaves of a device whose blocks are all for good (zdev.Crash). Walks: the bytes that the law writes. Walks: the bytes that hang on a number, told exactly (scarpalike.Data); like bytes are found alike (scarpalike.Bytes). Walks: a new world of law 24. Walks: one transaction of a new store: begun, written, committed, flushed. Walks: what law 24 asks of the store beside each statement (scarplaw24.awake). Tools for law 24's rounds: flags of blocks that were taken, puts that are gathered; store.Blocks, zdev.New and store.Mount of an empty device. Walks: a put at block 258 is written: it is refused (out of range). Walks: slot.blocks 61 over zones that hold blocks. Walks: slot.read 63 over a slot's frames. Walks: slot.Open 25 at a device whose slots hold texts. -/
import Derived.Deep.RegionHeld3
import Derived.Test.YtnelakpdmjfolaaGreatCc
import Derived.Test.YtnelakpdmjfolaaGreatCd
import Derived.Test.YtnelakpdmjfolaaGreatCe
import Derived.Test.YtnelakpdmjfolaaGreatCg
import Derived.Test.YtnelakpdmjfolaaGreatCh
import Derived.Test.YtnelakpdmjfolaaGreatCi
import Derived.Test.YtnelakpdmjfolaaGreatCj
import Derived.Test.YtnelakpdmjfolaaGreatCk
namespace Go.Proofs.YtnelakpdmjfolaaGreat
open Go.RowKit Go.Lib

/-- nothing below lw has changed. -/
def Kp (lw : Nat) (w w' : World) : Prop := ∃ U, Chg U w w' ∧ ∀ x ∈ U, x < w.heap.size → lw ≤ x
theorem Kp.of_chg {lw : Nat} {w w' : World} (h : Chg [] w w') : Kp lw w w' := ⟨[], h, fun x hx => by cases hx⟩
theorem Kp.of_chg1 {lw x : Nat} {w w' : World} (h : Chg [x] w w') (hx : lw ≤ x) : Kp lw w w' := ⟨[x], h, fun y hy _ => by rw [List.mem_singleton] at hy; omega⟩
theorem Kp.trans {lw : Nat} {a b c : World} (h : Kp lw a b) (k : Kp lw b c) : Kp lw a c := by
  obtain ⟨S, h1, h2⟩ := h
  obtain ⟨U, k1, k2⟩ := k
  refine ⟨S ++ U, (h1.mono (fun x hx _ => List.mem_append_left _ hx)).trans k1 (fun x hx _ => List.mem_append_right _ hx), fun x hx hlt => ?_⟩
  by_cases hT : x ∈ S
  · exact h2 x hT hlt
  · rcases List.mem_append.1 hx with h | h
    · exact absurd h hT
    · exact k2 x h (Nat.lt_of_lt_of_le hlt h1.size)
theorem Kp.size {lw : Nat} {w w' : World} (h : Kp lw w w') : w.heap.size ≤ w'.heap.size := by obtain ⟨U, h1, -⟩ := h; exact h1.size
theorem Kp.of_cs {lw : Nat} {w w' : World} (h : Cs lw w w') : Kp lw w w' := by obtain ⟨U, h1, h2⟩ := h; exact ⟨U, h1, fun x hx hl => (h2 x hx hl).1⟩
theorem Kp.of_ow {lw base : Nat} {w w' : World} (h : Ow base w w') (hb : lw ≤ base) : Kp lw w w' := by obtain ⟨U, h1, h2⟩ := h; exact ⟨U, h1, fun x hx _ => Nat.le_trans hb (h2 x hx).1⟩
theorem Kp.heap {lw : Nat} {w w' : World} (h : Kp lw w w') {x : Nat} {o : Obj} (hh : w.heap[x]? = some o) (hx : x < lw) : w'.heap[x]? = some o := by
  obtain ⟨U, h1, h2⟩ := h
  exact h1.heap hh (fun hm => by have := h2 x hm (heap_lt hh); omega)
theorem Kp.chg0 {lw : Nat} {w0 w w' : World} (h : Chg [] w0 w) (k : Kp lw w w') (hl : w0.heap.size ≤ lw) : Chg [] w0 w' := by
  obtain ⟨U, k1, k2⟩ := k
  exact h.trans k1 (fun x hx hlt => by have := k2 x hx (Nat.lt_of_lt_of_le hlt h.size); omega)
/-- what holds of a store's numbers behind j steps; its blocks are q. -/
structure Pln (s : Gs) (g : Gd) (q : Int → List UInt8) (j : Nat) : Prop where
  out : s.out = 0
  rd : s.rd = false
  lastv : s.lastv = s.last
  given : s.last ≤ s.given ∧ s.given ≤ j
  last : 0 ≤ s.last
  num : 0 ≤ s.num ∧ s.num ≤ j
  bl : 0 ≤ s.bl ∧ s.bl ≤ j
  old : ∀ b, ∀ x ∈ s.vs b, x.1 ≤ s.last
  small : ∀ b, (s.vs b).length ≤ j
  inn : g.inn = 1 ∨ g.inn = 0
  ops : 0 ≤ g.ops ∧ g.ops ≤ 400 * j + 10
  cnt : g.cnt ≤ j ∧ g.num ≤ j
  log : (g.zs 6).length = min g.pos 96 ∧ (g.zs 7).length = g.pos - 96 ∧ g.pos ≤ 192
  blk : ∀ b, 0 ≤ b → b < 258 → bytT (s.vs b) s.last = q b
/-- its queue is empty. -/
def QNil (w : World) (lw : Nat) (s : Gs) : Prop := ∃ pq cq, s.qv = .slice pq 0 cq ∧ w.ownsRow lw 3 1 (.slice pq 0 cq) 0 []
theorem QNil.chg {w w' : World} {S : List Nat} {lw : Nat} {s : Gs} (h : QNil w lw s) (hc : Chg S w w') (hS : ∀ x ∈ S, ∀ cs, w.heap[x]? ≠ some (.cells cs 3 (0, 0))) : QNil w' lw s := by
  obtain ⟨pq, cq, e, h1⟩ := h
  exact ⟨pq, cq, e, own_chgB h1 hc (fun g hg hm => by obtain ⟨-, cur, hh⟩ := own_elem h1 hg; exact hS g hm cur hh)⟩
structure Rst (w : World) (lw : Nat) (d : Ids) (s : Gs) (g : Gd) (q : Int → List UInt8) (j : Nat) : Prop where
  sto : Sto w lw d s g
  pl : Pln s g q j
  lb : s.Lb = []
  qn : QNil w lw s
  lw : lw ≤ w.heap.size
theorem Rst.keep {w w' : World} {lw j : Nat} {d : Ids} {s : Gs} {g : Gd} {q : Int → List UInt8} (h : Rst w lw d s g q j) (hc : Chg [] w w') : Rst w' lw d s g q j :=
  ⟨h.sto.keep hc, h.pl, h.lb, h.qn.chg hc (fun x hx => by cases hx), Nat.le_trans h.lw hc.size⟩
theorem Rst.new {w : World} {lw : Nat} {d : Ids} {ops : Int} (h : Sto w lw d (s00 lw) (g00 lw ops)) (ho : 0 ≤ ops ∧ ops ≤ 2) (hl : lw ≤ w.heap.size) : Rst w lw d (s00 lw) (g00 lw ops) (fun _ => zeroB) 0 :=
  ⟨h, ⟨rfl, rfl, rfl, ⟨Int.le_refl _, Int.le_refl _⟩, Int.le_refl _, ⟨Int.le_refl _, Int.le_refl _⟩, ⟨Int.le_refl _, Int.le_refl _⟩, fun b x hx => (by cases hx), fun b => Nat.le_refl _, Or.inl rfl, ⟨ho.1, by show ops ≤ _; omega⟩, ⟨Nat.le_refl _, Nat.le_refl _⟩, ⟨rfl, rfl, Nat.zero_le _⟩, fun b _ _ => rfl⟩, rfl, ⟨none, 0, rfl, World.ownsRow_nil _ _ _ _⟩, hl⟩
/-- a store with one transaction that is open: the blocks it sees are q, its buffer L. -/
structure Opn (w : World) (lw : Nat) (d : Ids) (s : Gs) (g : Gd) (q0 : Int → List UInt8) (j base : Nat) (q : Int → List UInt8) (L : List (Int × Value)) : Prop where
  pl : Pln s g q0 j
  lb : s.Lb = []
  qn : QNil w lw s
  low : lw ≤ base ∧ lw ≤ w.heap.size ∧ lw ≤ d.T
  lt : d.rx < base ∧ d.rb < base ∧ d.r < base
  su : Su w base d (begP s) (StoF lw d (begS s d.T) g) q L 0
theorem Opn.fr {w : World} {lw base j : Nat} {d : Ids} {s : Gs} {g : Gd} {q0 q : Int → List UInt8} {L : List (Int × Value)} (h : Opn w lw d s g q0 j base q L) : Fr base d (begP s) (StoF lw d (begS s d.T) g) :=
  fr_sto h.lt ((getL_put _ _ _ _).trans (if_pos rfl)) rfl rfl rfl rfl
theorem Opn.step {w w' : World} {lw base j : Nat} {d : Ids} {s : Gs} {g : Gd} {q0 q q' : Int → List UInt8} {L L' : List (Int × Value)} (h : Opn w lw d s g q0 j base q L) (ho : Ow base w w') (hm : Su w' base d (begP s) (StoF lw d (begS s d.T) g) q' L' 0) : Opn w' lw d s g q0 j base q' L' := by
  refine ⟨h.pl, h.lb, ?_, ⟨h.low.1, Nat.le_trans h.low.2.1 ho.size, h.low.2.2⟩, h.lt, hm⟩
  obtain ⟨T, h1, h2⟩ := ho
  exact h.qn.chg h1 (fun x hx cs hh => absurd ((h2 x hx).2 _ _ _ hh) (by decide))
theorem Opn.keep {w w' : World} {lw base j : Nat} {d : Ids} {s : Gs} {g : Gd} {q0 q : Int → List UInt8} {L : List (Int × Value)} (h : Opn w lw d s g q0 j base q L) (hc : Chg [] w w') : Opn w' lw d s g q0 j base q L :=
  h.step (Ow.of_chg hc) (h.su.keep h.fr hc)
theorem rbegin (w : World) {lw j : Nat} {d : Ids} {s : Gs} {g : Gd} {q : Int → List UInt8} (h : Rst w lw d s g q j) (hj : j ≤ 100000) :
    Calls Tryz.prog 9 #[.pointer (some ⟨d.P, 0, none⟩)] w fun e w' => e = .returned (.tuple #[.int .i64 (s.bl + 1), .int .i64 0]) ∧ ∃ d', (d'.P = d.P ∧ d'.N = d.N) ∧ Opn w' lw d' s g q j w.heap.size q [] ∧ Kp lw w w' := by
  have hp := h.pl
  have h1 := hp.last
  have h3 := hp.given
  have h2 := hp.bl
  refine (sbegin_q w h.sto h.lb h1 (by omega) h2.1 (by omega)).mono ?_
  rintro e w' ⟨rfl, ⟨T, W, rw, Q, V, cs, hT, hSu⟩, kB⟩
  have hm := h.sto.mx
  refine ⟨rfl, { d with T := T, W := W, rw := rw, Q := Q, V := V }, ⟨rfl, rfl⟩, ⟨hp, h.lb, h.qn.chg kB (fun x hx cs hh => ?_), ⟨h.lw, Nat.le_trans h.lw cs.size, Nat.le_trans h.lw hT⟩, ⟨hm.ver.m.lt, hm.book.2.lt, hm.map.lt⟩, hSu.congr hp.blk⟩, Kp.of_cs cs⟩
  simp only [List.mem_cons, List.not_mem_nil, or_false] at hx
  rcases hx with rfl | rfl | rfl
  · rw [hm.book.1] at hh; cases hh
  · exact map_cells hm.book.2 hh rfl
  · exact map_cells hm.map hh rfl
theorem rwrite (w : World) {lw j base m E eo cp : Nat} {d : Ids} {s : Gs} {g : Gd} {q0 q : Int → List UInt8} {L : List (Int × Value)} {l : List (Int × List UInt8)} (h : Opn w lw d s g q0 j base q L) (hp : PutsW w E eo l) (hn : l.length = m) (h0 : 0 < m) (hd : (l.map Prod.fst).Nodup) (hk : ∀ p ∈ l, 0 ≤ p.1 ∧ p.1 < 258) (hroom : L.length + m ≤ 16) :
    Calls Tryz.prog 12 #[.pointer (some ⟨d.P, 0, none⟩), .int .i64 (s.bl + 1), .slice (some ⟨E, eo, none⟩) m cp] w fun e w' => e = .returned (.int .i64 0) ∧ Kp lw w w' ∧ ∃ L', Opn w' lw d s g q0 j base (putA q l) L' ∧ 0 < L'.length ∧ L'.length ≤ L.length + m := by
  refine (swrite_many w (p := begP s) (cp := cp) h.fr h.su hp hn h0 hd hk hroom).mono ?_
  rintro e w' ⟨L', rfl, ho, hs, h1, h2⟩
  exact ⟨rfl, Kp.of_ow ho h.low.1, L', h.step ho hs, h1, h2⟩
/-- a store with one transaction that waits: its blocks will be q. -/
structure Wai (w : World) (lw : Nat) (d : Ids) (s : Gs) (g : Gd) (q0 : Int → List UInt8) (j : Nat) (q : Int → List UInt8) (m : Nat) : Prop where
  pl : Pln s g q0 j
  lb : s.Lb = []
  low : lw ≤ w.heap.size ∧ lw ≤ d.T
  tx : ∃ gq cq L, ∃ k : Nat, Sto w lw d (comS (begS s d.T) gq cq) g ∧ Wtx w d (comS (begS s d.T) gq cq) gq cq (s.bl + 1) k s.last s.last L q ∧ (k : Int) = s.given + 1 ∧ L.length ≤ m ∧
    (∀ b, 0 ≤ b → b < 258 → bytT (applyV s.vs k (putsL L q) b) k = q b)
theorem Wai.keep {w w' : World} {lw j m : Nat} {d : Ids} {s : Gs} {g : Gd} {q0 q : Int → List UInt8} (h : Wai w lw d s g q0 j q m) (hc : Chg [] w w') : Wai w' lw d s g q0 j q m := by
  obtain ⟨gq, cq, L, k, h1, h2, h3⟩ := h.tx
  exact ⟨h.pl, h.lb, ⟨Nat.le_trans h.low.1 hc.size, h.low.2⟩, gq, cq, L, k, h1.keep hc, h2.keep hc, h3⟩
theorem rcommit (w : World) {lw base j m : Nat} {d : Ids} {s : Gs} {g : Gd} {q0 q : Int → List UInt8} {L : List (Int × Value)} (h : Opn w lw d s g q0 j base q L) (h0 : 0 < L.length) (hm : L.length ≤ m) (hm16 : m ≤ 16) (hj : j ≤ 100000) :
    Calls Tryz.prog 13 #[.pointer (some ⟨d.P, 0, none⟩), .int .i64 (s.bl + 1)] w fun e w' => e = .returned (.int .i64 0) ∧ Wai w' lw d s g q0 j q m ∧ Kp lw w w' := by
  have hS : Sto w lw d (begS s d.T) g := h.su.env
  have hp := h.pl
  have hl := hp.last
  have hg := hp.given
  obtain ⟨pq, cq, hq1, hq2⟩ := h.qn
  obtain ⟨k, hk⟩ : ∃ k : Nat, (k : Int) = s.given + 1 := ⟨(s.given + 1).toNat, by omega⟩
  have ho : OldV s.Lv s.vs s.last := ⟨hS.keys, hp.old⟩
  have hlow := h.low
  refine (scommit_sto w (p := begP s) (n := 0) (k := k) (loq := lw) (pq := pq) (cq := cq) h.fr h.su hq1 hq2 (by omega) (Nat.le_refl _) hp.rd ho (by show s.given + 1 = _; rw [hk]) (by show s.given < _; omega) (by show 0 ≤ s.given; omega) (by omega) h0 (by omega) ((getL_put _ _ _ _).trans (if_pos rfl)) (if_pos rfl) h.low.2.2).mono ?_
  rintro e w' ⟨rfl, gq, cq', k1, k2, k3⟩
  refine ⟨rfl, ⟨hp, h.lb, ⟨by have := k3.size; omega, h.low.2.2⟩, gq, cq', L, k, k1, k2, hk, hm, fun b b0 b1 => ?_⟩, Kp.of_cs k3⟩
  exact h.su.seen (k := k) (t := k) (Int.le_refl _) ho (by show s.last ≤ _; omega) b b0 b1
theorem applyV_or {L : List (Int × Value)} {D : Int → List UInt8} {vs : Int → List (Int × List UInt8)} {k : Int} (hn : (L.map Prod.fst).Nodup) (b : Int) : (b ∈ L.map Prod.fst ∧ applyV vs k (putsL L D) b = vs b ++ [(k, D b)]) ∨ applyV vs k (putsL L D) b = vs b := by
  have hp := sortI_perm (L.map Prod.fst)
  by_cases hb : b ∈ L.map Prod.fst
  · have hm : (b, D b) ∈ putsL L D := List.mem_map.2 ⟨b, hp.mem_iff.2 hb, rfl⟩
    have hnd : ((putsL L D).map Prod.fst).Nodup := by rw [putsL_fst]; exact hp.nodup_iff.2 hn
    exact Or.inl ⟨hb, applyV_mem hnd hm⟩
  · exact Or.inr (applyV_not (by rw [putsL_fst]; exact fun hm => hb (hp.mem_iff.1 hm)))
/-- what a flush leaves: with room the blocks are q, without room they are as they were. -/
def FlR (w' : World) (lw : Nat) (d : Ids) (s : Gs) (g : Gd) (q0 q : Int → List UInt8) (j m : Nat) (e : Ending) : Prop :=
  (e = .returned (.int .i64 0) ∧ ∃ s' dv k l, Rst w' lw d s' (doneT g dv k l) q (j + 1) ∧ s.last + 1 ≤ s'.last) ∨
  (e = .returned (.int .i64 9) ∧ 192 < g.pos + m + 1 ∧ ∃ s', Rst w' lw d s' g q0 (j + 1) ∧ s'.last = s.last)
theorem rflush (w : World) {lw j m : Nat} {d : Ids} {s : Gs} {g : Gd} {q0 q : Int → List UInt8} (h : Wai w lw d s g q0 j q m) (hj : j ≤ 2000) :
    Calls Tryz.prog 14 #[.pointer (some ⟨d.P, 0, none⟩)] w fun e w' => FlR w' lw d s g q0 q j m e ∧ Kp lw w w' := by
  obtain ⟨gq, cq, L, k, h1, h2, hk, hLm, hb⟩ := h.tx
  have hp := h.pl
  have hl := hp.last
  have hg := hp.given
  have hops := hp.ops
  have hcnt := hp.cnt
  have hnum := hp.num
  have hbl := hp.bl
  have hlog := hp.log
  have hlen := putsL_length L q
  have hnd := h2.buf.2.nodup
  have hL16 := h2.len
  have hsm : ∀ c, (s.vs c).length + 16 < 1000000 := fun c => by have := hp.small c; omega
  by_cases hpos : g.pos + L.length + 1 ≤ 192
  · refine (sflush_two w (k := k) h1 h2 hp.out h.low.2 h.low.1 (by omega) (by show s.lastv < _; rw [hp.lastv]; omega) (by omega) hsm hnum.1 (by show s.num ≤ _; omega) hlog.1 hlog.2.1 hpos hops.1 (by omega) (by omega) (by omega)).mono ?_
    rintro e w' ⟨rfl, z, Lv', dv, k1, k2, k3⟩
    have hor := fun b => applyV_or (D := q) (vs := s.vs) (k := k) hnd b
    have hzl := logZ_len (bl := batL g.cnt (g.num + 1) k (putsL L q)) hlog.1 hlog.2.1 ((putsL L q).length + 1) (by rw [batL_length]; exact Nat.le_refl _) (by rw [hlen]; omega)
    refine ⟨Or.inl ⟨rfl, _, dv, k, _, ⟨k1, ⟨rfl, hp.rd, rfl, ?_, ?_, ?_, ?_, fun b x hx => ?_, fun b => ?_, hp.inn, ?_, ?_, ?_, hb⟩, ?_, ⟨_, _, rfl, k3⟩, by have := k2.size; have := h.low; omega⟩, ?_⟩, Kp.of_cs k2⟩
    · show (k : Int) ≤ s.given + 1 ∧ s.given + 1 ≤ _
      omega
    · show 0 ≤ (k : Int)
      omega
    · show 0 ≤ s.num + 1 ∧ s.num + 1 ≤ _
      omega
    · show 0 ≤ s.bl + 1 ∧ s.bl + 1 ≤ _
      omega
    · have hx2 : x ∈ applyV s.vs k (putsL L q) b := hx
      show x.1 ≤ (k : Int)
      rcases hor b with ⟨-, e⟩ | e
      · rw [e] at hx2
        rcases List.mem_append.1 hx2 with hx3 | hx3
        · have := hp.old b x hx3; omega
        · rw [List.mem_singleton] at hx3; rw [hx3]; exact Int.le_refl _
      · rw [e] at hx2
        have := hp.old b x hx2; omega
    · show (applyV s.vs k (putsL L q) b).length ≤ _
      have := hp.small b
      rcases hor b with ⟨-, e⟩ | e
      · rw [e, List.length_append, List.length_singleton]; omega
      · rw [e]; omega
    · show 0 ≤ g.ops + ((putsL L q).length : Int) + 2 ∧ g.ops + ((putsL L q).length : Int) + 2 ≤ _
      omega
    · show g.cnt ≤ _ ∧ g.num + 1 ≤ _
      omega
    · show (logZ g.zs g.pos (batL g.cnt (g.num + 1) k (putsL L q)) ((putsL L q).length + 1) 6).length = min (g.pos + (putsL L q).length + 1) 96 ∧ (logZ g.zs g.pos (batL g.cnt (g.num + 1) k (putsL L q)) ((putsL L q).length + 1) 7).length = g.pos + (putsL L q).length + 1 - 96 ∧ g.pos + (putsL L q).length + 1 ≤ 192
      rw [hzl.1, hzl.2]
      omega
    · show delL [(s.bl + 1, _)] (s.bl + 1) = []; simp [delL]
    · show s.last + 1 ≤ (k : Int)
      omega
  · refine (sflush_no w (k := k) h1 h2 hp.out h.low.2 h.low.1 (by omega) (by show s.lastv < _; rw [hp.lastv]; omega) (by omega) hsm hnum.1 (by show s.num ≤ _; omega) (by omega) hlog.2.2 (by omega) (by omega)).mono ?_
    rintro e w' ⟨rfl, z, k1, k2, k3⟩
    refine ⟨Or.inr ⟨rfl, by omega, _, ⟨k1, ⟨rfl, hp.rd, hp.lastv, ?_, hl, ?_, ?_, hp.old, fun b => ?_, hp.inn, ?_, ?_, hp.log, hp.blk⟩, ?_, ⟨_, _, rfl, k3⟩, by have := k2.size; have := h.low; omega⟩, rfl⟩, Kp.of_cs k2⟩
    · show s.last ≤ s.given + 1 ∧ s.given + 1 ≤ _
      omega
    · show 0 ≤ s.num ∧ s.num ≤ _
      omega
    · show 0 ≤ s.bl + 1 ∧ s.bl + 1 ≤ _
      omega
    · show (s.vs b).length ≤ _
      have := hp.small b
      omega
    · have := hp.ops; omega
    · have := hp.cnt; omega
    · show delL [(s.bl + 1, _)] (s.bl + 1) = []; simp [delL]
theorem nodup_258 (l : List Int) (hn : l.Nodup) (hk : ∀ x ∈ l, 0 ≤ x ∧ x < 258) : l.length ≤ 258 := by
  have := nodup_subK l ((List.range 258).map fun i : Nat => (i : Int)) hn (fun x hx => by
    have := hk x hx
    exact List.mem_map.2 ⟨x.toNat, List.mem_range.2 (by omega), by omega⟩)
  simpa using this
theorem Sto.lv {w : World} {lw : Nat} {d : Ids} {s : Gs} {g : Gd} (h : Sto w lw d s g) : s.Lv.length ≤ 258 := by
  have := nodup_258 (s.Lv.map Prod.fst) h.mx.ver.m.nodup (fun x hx => by
    obtain ⟨p, hp, rfl⟩ := List.mem_map.1 hx
    exact h.keys p hp)
  simpa using this
theorem rcheck (w : World) {lw j : Nat} {d : Ids} {s : Gs} {g : Gd} {q : Int → List UInt8} (h : Rst w lw d s g q j) (hj : j ≤ 1900) :
    Calls Tryz.prog 16 #[.pointer (some ⟨d.P, 0, none⟩)] w fun e w' => e = .returned (.int .i64 0) ∧ (∃ g', Rst w' lw d s g' q (j + 1) ∧ g'.pos = 0) ∧ Kp lw w w' := by
  have hp := h.pl
  have hl := hp.last
  have hg := hp.given
  obtain ⟨inn, i, a, hi, hinn⟩ : ∃ inn i a : Nat, ((inn = 1 ∧ i = 0 ∧ a = 0) ∨ (inn = 0 ∧ i = 1 ∧ a = 3)) ∧ g.inn = inn := by
    rcases hp.inn with e | e
    · exact ⟨1, 0, 0, Or.inl ⟨rfl, rfl, rfl⟩, e⟩
    · exact ⟨0, 1, 3, Or.inr ⟨rfl, rfl, rfl⟩, e⟩
  have hops := hp.ops
  have hcnt := hp.cnt
  refine (scheck_ok w (lst := s.last.toNat) h.sto hi hinn h.sto.lv (by omega) (by omega) hops.1 (by omega) (by omega) h.lw).mono ?_
  rintro e w' ⟨rfl, tv, ops, dv, ho, k1, k2⟩
  refine ⟨rfl, ⟨_, ⟨k1, ⟨hp.out, hp.rd, hp.lastv, ⟨hg.1, by omega⟩, hl, ⟨hp.num.1, by have := hp.num.2; omega⟩, ⟨hp.bl.1, by have := hp.bl.2; omega⟩, hp.old, fun b => Nat.le_succ_of_le (hp.small b), ?_, ?_, ?_, ⟨rfl, rfl, Nat.zero_le _⟩, hp.blk⟩, h.lb, ?_, by have := k2.cs.size; have := h.lw; omega⟩, rfl⟩, Kp.of_cs k2.cs⟩
  · show (i : Int) = 1 ∨ (i : Int) = 0
    omega
  · show 0 ≤ ops ∧ ops ≤ _
    omega
  · show g.cnt + 1 ≤ _ ∧ 0 ≤ _
    omega
  · obtain ⟨U, u1, u2⟩ := k2
    obtain ⟨pq, cq, e, ho⟩ := h.qn
    refine ⟨pq, cq, e, own_chgB ho u1 (fun g hg hm => ?_)⟩
    obtain ⟨-, cur, hh⟩ := own_elem ho hg
    obtain ⟨-, cs, t, e1, e2⟩ := u2 g hm (heap_lt hh)
    rw [hh] at e1
    cases e1
    revert e2
    decide
theorem rclean (w : World) {lw j : Nat} {d : Ids} {s : Gs} {g : Gd} {q : Int → List UInt8} (h : Rst w lw d s g q j) :
    Calls Tryz.prog 17 #[.pointer (some ⟨d.P, 0, none⟩)] w fun e w' => (∃ n : Int, e = .returned (.int .i64 n)) ∧ (∃ s', Rst w' lw d s' g q j ∧ s'.last = s.last) ∧ Kp lw w w' := by
  have hp := h.pl
  refine (sclean_ok w h.sto h.lb).mono ?_
  rintro e w' ⟨hn, L', vs', k1, k2, k3, hc⟩
  refine ⟨hn, ⟨_, ⟨k1, ⟨hp.out, hp.rd, hp.lastv, hp.given, hp.last, hp.num, hp.bl, fun b x hx => hp.old b x ((hc b).sub.2 x hx), fun b => Nat.le_trans (hc b).sub.1 (hp.small b), hp.inn, hp.ops, hp.cnt, hp.log, fun b b0 b1 => ((hc b).2.2 _ (Int.le_refl _)).trans (hp.blk b b0 b1)⟩, h.lb, ?_, Nat.le_trans h.lw k3.size⟩, rfl⟩, Kp.of_cs k2⟩
  obtain ⟨pq, cq, e, ho⟩ := h.qn
  refine ⟨pq, cq, e, own_chgB ho k3 (fun g hg hm => ?_)⟩
  obtain ⟨-, cur, hh⟩ := own_elem ho hg
  rw [List.mem_singleton] at hm
  subst hm
  exact map_cells h.sto.mx.ver.m hh rfl
theorem rlast (w : World) {lw j : Nat} {d : Ids} {s : Gs} {g : Gd} {q : Int → List UInt8} (h : Rst w lw d s g q j) : Calls Tryz.prog 18 #[.pointer (some ⟨d.P, 0, none⟩)] w fun e w' => e = .returned (.int .i64 s.last) ∧ w = w' :=
  slast_ok w h.sto.store h.sto.mx.mgr
end Go.Proofs.YtnelakpdmjfolaaGreat
namespace Go.Proofs.YtnelakpdmjfolaaGreat
open Go.RowKit Go.Lib

theorem RowsC.at_ {w : World} {base : Nat} {v : Value} {l : List (List UInt8)} (h : RowsC w base v l) : RowsAt w base v l := by
  obtain ⟨xs, ho, hx⟩ := h
  refine ⟨xs, ho, fun i hi => ?_⟩
  obtain ⟨g, c, h1, -, h2⟩ := hx i hi
  exact ⟨g, c, h1, h2⟩
set_option maxRecDepth 100000 in
set_option maxHeartbeats 4000000 in
theorem zown_ok (w : World) {lo c n : Nat} {pa : Option Addr} {l : List (List UInt8)} (h : RowsAt w lo (.slice pa n c) l) (hn : l.length = n) (hn1 : n ≤ 1000) : Calls Tryz.prog 55 #[.slice pa n c] w fun e w' => ∃ v, e = .returned v ∧ Chg [] w w' ∧ RowsC w' w.heap.size v l := by
  have HP := Lib.hid h
  clear h
  go_enter Tryz.func55, Tryz.ntmps55
  go_wp2_with fail
  go_loopw [2, 4, 7] (fun v _ i wr => ∃ j : Nat, j ≤ n ∧ i = .int .i64 j ∧ Chg [] w wr ∧ RowsC wr w.heap.size v (l.take j)) (fun _ _ i _ => n - (intOf i).toNat)
  case atStart => exact ⟨0, by omega, rfl, Chg.refl _ _, by simpa using RowsC.nil _ _⟩
  case round =>
    obtain ⟨j, hj, rfl, kr, hrx⟩ := hrel
    by_cases hlt : j < n
    · have hjl : j < l.length := by omega
      obtain ⟨ga, ca, gd, cd, hv, hca, r0, hb, h64, -, -⟩ := (HP.out.keep kr (Av.nil _ _) (fun _ _ => by simp)).at2 j hjl
      have hpa : pa = some ⟨ga, 0, none⟩ ∧ n ≤ c := by
        injection hv with e1 e2 e3
        exact ⟨e1, by omega⟩
      obtain ⟨rfl, hnc⟩ := hpa
      have HC := Lib.hid (clone_btc wr (D := gd) (o := 0) (c := cd) (m := 64) h64 (by decide) (by decide) hb)
      have HX := Lib.hid (And.intro kr hrx)
      have H64 := Lib.hid h64
      have hji : (j : Int) < n := by omega
      clear kr hrx hb h64 hv
      go_wp2_with fail
      refine HC.out.mono ?_
      rintro e w2 ⟨g, c', rfl, k2, b2, hg2, t2, c64⟩
      obtain ⟨kr, hrx⟩ := HX.out
      obtain ⟨xs, ho, hxs⟩ := hrx.keep0 k2
      have hjt : (l.take j).length = j := by simp; omega
      rw [hjt] at ho
      obtain ⟨pv, cv, rfl, -⟩ := own_form ho
      have ka : Chg [] w2 (w2.alloc (.cells #[.slice (some ⟨g, 0, none⟩) 64 c'] 38)) := Chg.alloc w2 _
      have ya := heap_new w2 (.cells #[.slice (some ⟨g, 0, none⟩) 64 c'] 38)
      have oa := own_keep ho ka.below0
      have hk2 := k2.size
      have hkr := kr.size
      have hba : w.heap.size ≤ (w2.alloc (.cells #[.slice (some ⟨g, 0, none⟩) 64 c'] 38)).heap.size := by have := ka.size; omega
      have H2 := Lib.hid (And.intro (kr.then k2) (And.intro b2 (And.intro t2 (And.intro c64 (And.intro hxs ho)))))
      clear kr hrx k2 b2 t2 c64 hxs ho HX HC
      go_wp2_with (first | (at_builtin; refine wpList_append_bk rfl (.tmp 11) (.tmp 14) rfl w.heap.size (.slice pv j cv) j xs rfl oa w2.heap.size 1 _ rfl (cell_is ya 0 rfl) rfl (by omega) hba ?_; intro g5 c5 w5 o5 k5 i5))
      obtain ⟨k2, b2, t2, c64, hxs, ho⟩ := H2.out
      have hfin : Chg [] w w5 ∧ RowsC w5 w.heap.size (.slice (some ⟨g5, 0, none⟩) (j + 1) c5) (l.take (j + 1)) := by
        refine ⟨(k2.then ka).trans k5 (fun x hx hl => ?_), ?_⟩
        · obtain ⟨hge, -⟩ := own_elem oa (show (Value.slice pv j cv).ownBlock = some x by simpa using hx)
          omega
        · rw [List.take_succ_eq_append_getElem hjl]
          have hp := RowsC.push (w := w2.alloc (.cells #[.slice (some ⟨g, 0, none⟩) 64 c'] 38)) (w' := w5) (base := w.heap.size) (g := g5) (gb := g) (cb := c') (cap := c5) (v := .slice pv j cv) (l := l.take j) (b := l[j]) (xs := xs)
            (fun i hi => by obtain ⟨g', c'', e1, e2, e3, e4, e5⟩ := hxs i hi; exact ⟨g', c'', e1, e2, e3.chg ka, e4, e5.keep ka (by simp)⟩)
            (by rw [hjt]; have := ho.1; omega) (fun g' hg' => (own_elem oa hg').2) (by rw [hjt]; exact o5) k5 (b2.chg ka) H64.out (t2.keep ka (by simp)) c64
          rw [hjt] at hp
          exact hp
      have HF := Lib.hid hfin
      clear hfin k2 b2 t2 c64 hxs ho ka ya oa o5 k5 i5
      go_wp2_with fail
      go_roundw
      case rel => exact ⟨j + 1, hlt, by go_num, HF.out⟩
      case measure => simp [intOf]; omega
    · obtain rfl : j = n := by omega
      rw [List.take_of_length_le (by omega)] at hrx
      go_wp2_with fail
      go_ret
      exact ⟨_, rfl, kr, hrx⟩
/-- what pick answers. -/
def PickOk (pv : Value) (w : World) : Prop := ∀ w2, Chg [] w w2 → ∀ k : Nat, k < 8 → Calls Tryz.prog 53 #[pv, .int .i64 k] w2 fun e w' => ∃ x b, e = .returned (.tuple #[.int .i64 x, .bool b]) ∧ w2 = w'
set_option maxRecDepth 100000 in
theorem pick_nil (w : World) : PickOk (.slice none 0 0) w := by
  intro w2 _ k _
  go_enter Tryz.func53, Tryz.ntmps53
  go_wp2_with fail
  go_ret2
  exact ⟨0, false, rfl, rfl⟩
set_option maxRecDepth 100000 in
theorem rest_one (w : World) (x : Int) : Calls Tryz.prog 54 #[.int .i64 x, .int .i64 1] w fun e w' => e = .returned (.int .i64 0) ∧ w = w' := by
  go_enter Tryz.func54, Tryz.ntmps54
  go_wp2_with fail
  go_ret
  exact ⟨rfl, rfl⟩
/-- a zone is laid anew. -/
theorem DevG.lay {w : World} {base N A c : Nat} {ops : Int} {Z : List Nat} {vs : Nat → Value} {gs : Nat → Nat} {zs : Nat → List (List UInt8)} (h : DevG w base N A c ops Z vs gs zs) {j : Nat} (hj : j < Z.length) {v' : Value} {l' : List (List UInt8)} (hr : RowsAt w base v' l')
    (hap : ∀ g, v'.ownBlock = some g → ∀ i, i < 8 → i ≠ j → (vs i).ownBlock ≠ some g) : DevG ((w.setCell ⟨Z[j], 0, none⟩ v').setCell ⟨Z[j], 1, none⟩ (.int .i64 (l'.length : Nat))) base N A c ops Z (upF vs j v') (upF gs j l'.length) (upF zs j l') := by
  have hc : Chg [Z[j]] w ((w.setCell ⟨Z[j], 0, none⟩ v').setCell ⟨Z[j], 1, none⟩ (.int .i64 (l'.length : Nat))) := (Chg.set w Z[j] 0 v').then (Chg.set _ Z[j] 1 _)
  have hzj := h.zone j hj
  have ht : ∀ {g : Nat} {cs : Array Value} {t : TypeId}, w.heap[g]? = some (.cells cs t (0, 0)) → t ≠ 64 → g ∉ [Z[j]] := by
    intro g cs t hg h1 hm
    rw [List.mem_singleton] at hm
    subst hm
    rw [hzj] at hg; cases hg; exact h1 rfl
  have keepR : ∀ {v l}, RowsAt w base v l → RowsAt ((w.setCell ⟨Z[j], 0, none⟩ v').setCell ⟨Z[j], 1, none⟩ (.int .i64 (l'.length : Nat))) base v l := fun {v l} hh => hh.keep hc (Av.row hzj (by simp)) (fun g hg => by
    obtain ⟨cs, hb⟩ := hh.block g hg
    exact ht hb (by decide))
  obtain ⟨cA, hA⟩ := h.tA
  refine ⟨hc.heap h.hdr (ht h.hdr (by decide)), h.cap, h.len, ⟨cA, hc.heap hA (ht hA (by decide))⟩, fun k hk => hc.cell (h.ptr k hk) (ht hA (by decide)), fun k hk => ?_, fun k hk => ?_, fun i k g hi hk hik hg => ?_, h.nodup⟩
  · by_cases hkj : k = j
    · subst hkj
      simpa [upF] using heap_set (heap_set hzj 0 v' rfl) 1 (.int .i64 (l'.length : Nat)) rfl
    · simpa [upF, hkj] using hc.heap (h.zone k hk) (by simpa using nodup_ne h.nodup hk hj hkj)
  · by_cases hkj : k = j
    · subst hkj
      simpa [upF] using keepR hr
    · simpa [upF, hkj] using keepR (h.rows k hk)
  · by_cases hij : i = j
    · subst hij
      rw [show upF vs i v' i = v' by simp [upF]] at hg
      rw [show upF vs i v' k = vs k by simp [upF, hik.symm]]
      exact hap g hg k hk hik.symm
    · rw [show upF vs j v' i = vs i by simp [upF, hij]] at hg
      by_cases hkj : k = j
      · subst hkj
        rw [show upF vs k v' k = v' by simp [upF]]
        intro e
        exact hap g e i hi hij hg
      · rw [show upF vs j v' k = vs k by simp [upF, hkj]]
        exact h.apart i k g hi hk hik hg
/-- the first j zones. -/
def cutZ (zs : Nat → List (List UInt8)) (j : Nat) : Nat → List (List UInt8) := fun i => if i < j then zs i else []
theorem cutZ_succ (zs : Nat → List (List UInt8)) (j : Nat) : upF (cutZ zs j) j (zs j) = cutZ zs (j + 1) := by
  funext k
  unfold upF cutZ
  by_cases h : k = j
  · subst h; simp
  · rw [if_neg h]
    by_cases h2 : k < j
    · rw [if_pos h2, if_pos (by omega)]
    · rw [if_neg h2, if_neg (by omega)]
theorem cutG_succ (zs : Nat → List (List UInt8)) (j : Nat) : upF (fun i => (cutZ zs j i).length) j (zs j).length = fun i => (cutZ zs (j + 1) i).length := by
  funext k
  rw [← cutZ_succ]
  unfold upF
  split <;> rfl
/-- what a crash hands back. -/
def CrashR (w : World) (zs : Nat → List (List UInt8)) (e : Ending) (w' : World) : Prop :=
  ∃ N A c Z vs, e = .returned (.pointer (some ⟨N, 0, none⟩)) ∧ Chg [] w w' ∧ DevG w' w.heap.size N A c 0 Z vs (fun i => (cutZ zs 8 i).length) (cutZ zs 8) ∧ w.heap.size ≤ N ∧ w.heap.size ≤ A ∧ (∀ z ∈ Z, w.heap.size ≤ z)
set_option maxRecDepth 100000 in
set_option maxHeartbeats 8000000 in
theorem crash_ok (w : World) {base N A c : Nat} {ops rds : Int} {Z : List Nat} {vs : Nat → Value} {gs : Nat → Nat} {zs : Nat → List (List UInt8)} (hD : DevK w base N A c ops rds Z vs gs zs) (hg : ∀ j, j < 8 → gs j = (zs j).length) (hlen : ∀ j, j < 8 → (zs j).length ≤ 96) {pv tv : Value} (hp : PickOk pv w) (ht : PickOk tv w) :
    Calls Tryz.prog 19 #[.pointer (some ⟨N, 0, none⟩), pv, tv] w (CrashR w zs) := by
  have HG := Lib.hid (kgone w hD)
  have n0 : w.cell? ⟨N, 0, none⟩ = some (.int .i64 8) := cell_is hD.hdr 0 rfl
  have n1 : w.cell? ⟨N, 1, none⟩ = some (.int .i64 96) := cell_is hD.hdr 1 rfl
  have HD := Lib.hid hD
  have HP := Lib.hid hp
  have HT := Lib.hid ht
  have HE := Lib.hid hg
  have HL := Lib.hid hlen
  clear hD hp ht hg hlen
  go_enter Tryz.func19, Tryz.ntmps19
  go_wp2_with fail
  refine HG.out.mono ?_
  rintro e w1 ⟨rfl, rfl⟩
  go_wp2_with fail
  refine (new_any2 w).mono ?_
  rintro e w1 ⟨N', A', c', Z', rfl, k1, hD1, hO, lN, lA, lZ, hAx, hZn⟩
  have hG0 : DevG w1 w.heap.size N' A' c' 0 Z' (fun _ => .slice none 0 0) (fun i => (cutZ zs 0 i).length) (cutZ zs 0) := by
    have e : cutZ zs 0 = fun _ => [] := by funext i; simp [cutZ]
    rw [e]
    exact ⟨hD1.1, hD1.2.1, hD1.2.2.1, hAx, hD1.2.2.2.1, hD1.2.2.2.2, fun _ _ => RowsAt.nil w1 _, fun _ _ _ _ _ _ e => by simp [Value.ownBlock] at e, hZn⟩
  have m2' : w.cell? ⟨N, 2, none⟩ = some (.slice (some ⟨A, 0, none⟩) 8 c) := cell_is HD.out.hdr 2 rfl
  have m2 := k1.cell m2' (by simp)
  have HI := Lib.hid (And.intro lN (And.intro lA lZ))
  have hcap : (8 : Int) ≤ c := by have := HD.out.cap; omega
  clear hD1 hO hAx hZn lN lA lZ n0 n1 HG
  go_wp2_with fail
  go_loopw [33] (fun i wr => ∃ j : Nat, ∃ vs', i = .int .i64 j ∧ j ≤ 8 ∧ Chg [] w wr ∧ DevG wr w.heap.size N' A' c' 0 Z' vs' (fun i => (cutZ zs j i).length) (cutZ zs j)) (fun i _ => 8 - (intOf i).toNat)
  case atStart => exact ⟨0, _, rfl, by omega, k1, hG0⟩
  case round =>
    obtain ⟨j, vs', rfl, hj, kr, hG⟩ := hrel
    by_cases hlt : j < 8
    · have hDr := HD.out.keep kr (Av.nil _ _)
      have hjz : j < Z.length := by have := hDr.len; omega
      have hjz' : j < Z'.length := by have := hG.len; omega
      have a0 := hDr.ptr j hjz
      have k0 := hDr.zone j hjz
      have hrows := hDr.rows j hlt
      obtain ⟨pa, cc, hv, hcc⟩ : ∃ pa cc, vs j = .slice pa (zs j).length cc ∧ (zs j).length ≤ cc := by
        obtain ⟨xs, ho, -⟩ := hDr.rows j hlt
        exact own_form ho
      rw [hv] at k0 hrows
      have b0 : wr.cell? ⟨Z[j], 0, none⟩ = some (.slice pa (zs j).length cc) := cell_is k0 0 rfl
      have b1 : wr.cell? ⟨Z[j], 1, none⟩ = some (.int .i64 (zs j).length) := by
        have := cell_is k0 1 (v := .int .i64 (gs j : Nat)) rfl
        rwa [HE.out j hlt] at this
      have HO := Lib.hid (fun wx (kx : Chg [] wr wx) => zown_ok wx (hrows.keep kx (Av.nil _ _) (fun _ _ => by simp)) rfl (by have := HL.out j hlt; omega))
      have h96 : (zs j).length ≤ 96 := HL.out j hlt
      have hji : (j : Int) < 8 := by omega
      have HGr := Lib.hid (And.intro kr hG)
      have kd : Chg [] wr wr.drew := (Chg.refl [] wr).drew
      have b0d : wr.drew.cell? ⟨Z[j], 0, none⟩ = some (.slice pa (zs j).length cc) := b0
      have b1d : wr.drew.cell? ⟨Z[j], 1, none⟩ = some (.int .i64 (zs j).length) := b1
      have krd := kr.then kd
      have m2r := kr.cell m2' (by simp)
      clear hDr hrows k0 hv kr hG
      generalize hZZ : Z[j] = z at *
      go_upto_region 7 with fail
      go_region_law (fail)
      all_goals
        have HKd := Lib.hid (And.intro kd krd)
        clear kd krd
        go_wp2_with fail
        refine (HP.out _ HKd.out.2 j hlt).mono ?_
        rintro e w2 ⟨x, b, rfl, rfl⟩
        cases b
        all_goals
          go_wp2_with (first | (go_at_call 54; refine (rest_one _ x).mono ?_; rintro e w2 ⟨rfl, rfl⟩))
          refine (HO.out _ HKd.out.1).mono ?_
          rintro e w3 ⟨v3, rfl, k3, r3⟩
          obtain ⟨xs3, ho3, -⟩ := id r3
          obtain ⟨p3, c3, rfl, -⟩ := own_form ho3
          have kk3 := HKd.out.1.then k3
          have hG3 := HGr.out.2.keep kk3 (Av.nil _ _)
          obtain ⟨pz, cz, hvz⟩ := (hG3.rows j hlt).len
          have hz3 := hG3.zone j hjz'
          rw [hvz] at hz3
          have n2 : w3.cell? ⟨N', 2, none⟩ = some (.slice (some ⟨A', 0, none⟩) 8 c') := cell_is hG3.hdr 2 rfl
          have na := hG3.ptr j hjz'
          have hc8 := hG3.cap
          have z0 := cell_is hz3 0 rfl
          have z1 := cell_is hz3 1 rfl
          have f0 := unfrozen hz3 0
          have f1 := unfrozen hz3 1
          have hlay := hG3.lay hjz' (v' := .slice p3 (zs j).length c3) (l' := zs j) (r3.at_.base HGr.out.1.size) (fun g hg i hi hij e => by
            obtain ⟨h1, -⟩ := own_elem ho3 hg
            obtain ⟨cs, h2⟩ := (HGr.out.2.rows i hi).block g e
            have h3 := heap_lt h2
            have h4 := HKd.out.1.size
            omega)
          rw [cutG_succ, cutZ_succ] at hlay
          have hfin := ((HGr.out.1.then kk3).new_set (HI.out.2.2 _ (List.getElem_mem hjz')) 0 (.slice p3 (zs j).length c3)).new_set (HI.out.2.2 _ (List.getElem_mem hjz')) 1 (.int .i64 (zs j).length)
          have HF := Lib.hid (And.intro hfin hlay)
          have HTk := Lib.hid (HT.out _ (HGr.out.1.then kk3) j hlt)
          clear hlay hfin hz3 hG3 hvz k3 r3 ho3 kk3
          generalize hZ2 : Z'[j] = z2 at *
          go_wp2_with fail
          refine HTk.out.mono ?_
          rintro e w4 ⟨x2, b2, rfl, rfl⟩
          cases b2
          all_goals
            go_wp2_with fail
            go_roundw
            case rel => exact ⟨j + 1, _, by go_num, by omega, HF.out.1, HF.out.2⟩
            case measure => simp [intOf]; omega
    · obtain rfl : j = 8 := by omega
      go_wp2_with fail
      go_ret
      exact ⟨N', A', c', Z', vs', rfl, kr, hG, HI.out.1, HI.out.2.1, HI.out.2.2⟩
end Go.Proofs.YtnelakpdmjfolaaGreat
namespace Go.Proofs.YtnelakpdmjfolaaGreat
open Go.RowKit Go.Lib

set_option maxRecDepth 100000 in
theorem round251_any (w : World) (i : Int) : Calls Tryz.prog 81 #[.int .i64 i, .int .i64 251] w fun e w' => ∃ m : Nat, m < 251 ∧ e = .returned (.int .i64 m) ∧ w = w' := by
  have h1 : -251 < i.tmod 251 ∧ i.tmod 251 < 251 := by
    have := Int.tmod_lt_of_pos i (b := 251) (by omega)
    have := Int.lt_tmod_of_pos i (b := 251) (by omega)
    omega
  go_enter Tryz.func81, Tryz.ntmps81
  go_wp2_with fail
  · obtain ⟨m, hm⟩ : ∃ m : Nat, i.tmod 251 + 251 = m := ⟨(i.tmod 251 + 251).toNat, by omega⟩
    go_ret
    exact ⟨m, by omega, by rw [← hm]; rfl, rfl⟩
  · obtain ⟨m, hm⟩ : ∃ m : Nat, i.tmod 251 = m := ⟨(i.tmod 251).toNat, by omega⟩
    go_ret
    exact ⟨m, by omega, by rw [← hm]; rfl, rfl⟩
/-- block g is a row of forty bytes. -/
def Fo (w : World) (g : Nat) (r : List UInt8) : Prop := r.length = 40 ∧ w.heap[g]? = some (.cells (Lib.byteCells r).toArray 5 (0, 0))
theorem Fo.bs {w : World} {g : Nat} {r : List UInt8} (h : Fo w g r) : Bs w (some ⟨g, 0, none⟩) r := by
  refine Or.inr ⟨g, 0, rfl, heap_lt h.2, fun j hj => ?_⟩
  rw [Nat.zero_add]
  refine cell_is h.2 j ?_
  simp [Lib.byteCells, hj]
def zeroF : List UInt8 := List.replicate 40 0
theorem wrap251 : ∀ x : Fin 251, IntKind.u8.wrap (x.val : Int) = (x.val : Int) := by decide +kernel
theorem makeF (w : World) : (Instr.makeSlice 38 (.int .i64 40) (.int .i64 40)).run Tryz.prog w = .ok (.slice (some ⟨w.heap.size, 0, none⟩) 40 40) (w.alloc (.cells (Lib.byteCells zeroF).toArray 5)) := by kernel_rfl
set_option maxRecDepth 100000 in
set_option maxHeartbeats 1000000 in
theorem block_ok (w : World) (i : Int) : Calls Tryz.prog 38 #[.int .i64 40, .int .i64 i] w fun e w' => ∃ g r, e = .returned (.slice (some ⟨g, 0, none⟩) 40 40) ∧ Chg [] w w' ∧ w.heap.size ≤ g ∧ Fo w' g r := by
  have g0 := heap_new w (.cells (Lib.byteCells zeroF).toArray 5)
  have k0 : Chg [] w (w.alloc (.cells (Lib.byteCells zeroF).toArray 5)) := Chg.alloc w _
  have hmk := makeF
  have mx : max (40 : Int) 0 = 40 := by decide
  go_enter Tryz.func38, Tryz.ntmps38
  go_wp2_with fail
  have hz1 := heap_lt g0
  generalize w.alloc (.cells (Lib.byteCells zeroF).toArray 5) = w1 at *
  generalize hz : w.heap.size = z at *
  go_loopw [6] (fun i wr => ∃ j : Nat, j ≤ 40 ∧ i = .int .i64 j ∧ Chg [] w wr ∧ ∃ r, Fo wr z r) (fun i _ => 40 - (intOf i).toNat)
  case atStart => exact ⟨0, by omega, rfl, k0, zeroF, rfl, g0⟩
  case round =>
    obtain ⟨j, hj, rfl, kc, r, hr, gr⟩ := hrel
    by_cases hlt : j < 40
    · have n1 : decide ((j : Int) < 40) = true := decide_eq_true (by omega)
      go_wp2_with fail
      refine (round251_any wr _).mono ?_
      rintro e w2 ⟨m, hm, rfl, rfl⟩
      have cj : wr.cell? ⟨z, j, none⟩ = some (.int .u8 (r.getD j 0).toNat) := by
        refine cell_is gr j ?_
        simp [Lib.byteCells, hr, hlt, List.getD]
      have fj := unfrozen gr j
      have hm2 : IntKind.u8.wrap (m : Int) = (m : Int) := wrap251 ⟨m, hm⟩
      have gs := heap_set gr j (.int .u8 (m : Int)) (cs' := (Lib.byteCells (r.set j (UInt8.ofNat m))).toArray) (by
        have : Value.int .u8 (m : Int) = (fun b : UInt8 => Value.int .u8 b.toNat) (UInt8.ofNat m) := by
          show _ = Value.int .u8 ((UInt8.ofNat m).toNat : Int)
          rw [UInt8.toNat_ofNat', Nat.mod_eq_of_lt (by omega)]
        rw [this]
        unfold Lib.byteCells
        rw [List.setIfInBounds_toArray, List.map_set])
      have ks : Chg [] w (wr.setCell ⟨z, j, none⟩ (.int .u8 (m : Int))) := kc.trans (Chg.set _ _ _ _) (fun x hx hlt => by simp at hx; omega)
      have HF := Lib.hid (And.intro ks gs)
      clear ks gs kc
      go_wp2_with fail
      refine ⟨⟨j + 1, by omega, by simp, HF.out.1, _, by simpa using hr, HF.out.2⟩, by simp [intOf]; omega⟩
    · obtain rfl : j = 40 := by omega
      go_wp2_with fail
      go_ret
      exact ⟨z, r, rfl, kc, by omega, hr, gr⟩
set_option maxRecDepth 100000 in
theorem data_ok (w : World) (i : Int) : Calls Tryz.prog 11 #[.int .i64 i] w fun e w' => ∃ g r, e = .returned (.slice (some ⟨g, 0, none⟩) 40 40) ∧ Chg [] w w' ∧ w.heap.size ≤ g ∧ Fo w' g r := by
  go_enter Tryz.func11, Tryz.ntmps11
  go_wp2_with fail
  refine (block_ok w i).mono ?_
  rintro e w1 ⟨g, r, rfl, k, hl, hf⟩
  go_wp2_with fail
  go_ret
  exact ⟨g, r, rfl, k, hl, hf⟩
end Go.Proofs.YtnelakpdmjfolaaGreat
namespace Go.Proofs.YtnelakpdmjfolaaGreat
open Go.RowKit Go.Lib

set_option maxRecDepth 100000 in
theorem round_nat (w : World) (x : Nat) : Calls Tryz.prog 81 #[.int .i64 x, .int .i64 251] w fun e w' => e = .returned (.int .i64 (x % 251 : Nat)) ∧ w = w' := by
  have ht : (x : Int).tmod 251 = ((x % 251 : Nat) : Int) := by
    rw [Int.tmod_eq_emod_of_nonneg (by omega)]
    omega
  obtain ⟨m, hm⟩ : ∃ m : Nat, m = x % 251 := ⟨_, rfl⟩
  rw [← hm] at ht ⊢
  have hm1 : m < 251 := by omega
  clear hm
  go_enter Tryz.func81, Tryz.ntmps81
  go_wp2_with fail
  go_ret
  exact ⟨rfl, rfl⟩
/-- the bytes that hang on a number. -/
def datB (i : Nat) : List UInt8 := (List.range 40).map fun j => UInt8.ofNat ((j * j + i * 7 + 1) % 251)
theorem datB_length (i : Nat) : (datB i).length = 40 := by simp [datB]
theorem datB_at (i j : Nat) (h : j < (datB i).length) : (datB i)[j] = UInt8.ofNat ((j * j + i * 7 + 1) % 251) := by simp [datB]
set_option maxRecDepth 100000 in
set_option maxHeartbeats 1000000 in
theorem block_ex (w : World) (i : Nat) (hi : i ≤ 1000) : Calls Tryz.prog 38 #[.int .i64 40, .int .i64 i] w fun e w' => ∃ g, e = .returned (.slice (some ⟨g, 0, none⟩) 40 40) ∧ Chg [] w w' ∧ w.heap.size ≤ g ∧ Fo w' g (datB i) := by
  have g0 := heap_new w (.cells (Lib.byteCells zeroF).toArray 5)
  have k0 : Chg [] w (w.alloc (.cells (Lib.byteCells zeroF).toArray 5)) := Chg.alloc w _
  have hmk := makeF
  have mx : max (40 : Int) 0 = 40 := by decide
  go_enter Tryz.func38, Tryz.ntmps38
  go_wp2_with fail
  have hz1 := heap_lt g0
  generalize w.alloc (.cells (Lib.byteCells zeroF).toArray 5) = w1 at *
  generalize hz : w.heap.size = z at *
  go_loopw [6] (fun i' wr => ∃ j : Nat, j ≤ 40 ∧ i' = .int .i64 j ∧ Chg [] w wr ∧ ∃ r, Fo wr z r ∧ r.take j = (datB i).take j) (fun i _ => 40 - (intOf i).toNat)
  case atStart => exact ⟨0, by omega, rfl, k0, zeroF, ⟨rfl, g0⟩, rfl⟩
  case round =>
    obtain ⟨j, hj, rfl, kc, r, ⟨hr, gr⟩, hrt⟩ := hrel
    by_cases hlt : j < 40
    · have n1 : decide ((j : Int) < 40) = true := decide_eq_true (by omega)
      obtain ⟨s, hs⟩ : ∃ s : Nat, s = j * j := ⟨_, rfl⟩
      have hs1 : s ≤ 1600 := by rw [hs]; exact Nat.mul_le_mul (show j ≤ 40 by omega) (show j ≤ 40 by omega)
      have hsi : (j : Int) * (j : Int) = (s : Int) := by rw [hs]; push_cast; rfl
      have HS := Lib.hid hs
      have HRt := Lib.hid hrt
      clear hs hrt
      have hfe : (s : Int) + (i : Int) * 7 + 1 = ((s + i * 7 + 1 : Nat) : Int) := by push_cast; rfl
      have HRn := Lib.hid (round_nat wr (s + i * 7 + 1))
      rw [← hfe] at HRn
      clear hfe
      go_wp2_with fail
      refine HRn.out.mono ?_
      rintro e w2 ⟨rfl, rfl⟩
      obtain ⟨m, hmm⟩ : ∃ m : Nat, m = (s + i * 7 + 1) % 251 := ⟨_, rfl⟩
      have hm : m < 251 := by omega
      rw [← hmm]
      have HMm := Lib.hid hmm
      clear hmm HRn
      have cj : wr.cell? ⟨z, j, none⟩ = some (.int .u8 (r.getD j 0).toNat) := by
        refine cell_is gr j ?_
        simp [Lib.byteCells, hr, hlt, List.getD]
      have fj := unfrozen gr j
      have hm2 : IntKind.u8.wrap (m : Int) = (m : Int) := wrap251 ⟨m, hm⟩
      have gs := heap_set gr j (.int .u8 (m : Int)) (cs' := (Lib.byteCells (r.set j (UInt8.ofNat m))).toArray) (by
        have : Value.int .u8 (m : Int) = (fun b : UInt8 => Value.int .u8 b.toNat) (UInt8.ofNat m) := by
          show _ = Value.int .u8 ((UInt8.ofNat m).toNat : Int)
          rw [UInt8.toNat_ofNat', Nat.mod_eq_of_lt (by omega)]
        rw [this]
        unfold Lib.byteCells
        rw [List.setIfInBounds_toArray, List.map_set])
      have ks : Chg [] w (wr.setCell ⟨z, j, none⟩ (.int .u8 (m : Int))) := kc.trans (Chg.set _ _ _ _) (fun x hx hlt => by simp at hx; omega)
      have htk : (r.set j (UInt8.ofNat m)).take (j + 1) = (datB i).take (j + 1) := by
        have h1 : j < (r.set j (UInt8.ofNat m)).length := by rw [List.length_set]; omega
        have h2 : j < (datB i).length := by rw [datB_length]; omega
        rw [List.take_succ_eq_append_getElem h1, List.take_succ_eq_append_getElem h2, List.take_set_of_le (Nat.le_refl j), HRt.out, datB_at, ← HS.out, List.getElem_set_self, HMm.out]
      have HF := Lib.hid (And.intro ks (And.intro gs htk))
      clear ks gs kc htk
      go_wp2_with fail
      refine ⟨⟨j + 1, by omega, by simp, HF.out.1, _, ⟨by simpa using hr, HF.out.2.1⟩, HF.out.2.2⟩, by simp [intOf]; omega⟩
    · obtain rfl : j = 40 := by omega
      have e : r = datB i := by
        rw [List.take_of_length_le (by omega), List.take_of_length_le (by rw [datB_length]; omega)] at hrt
        exact hrt
      subst e
      have HF := Lib.hid (And.intro kc gr)
      clear kc gr
      go_wp2_with fail
      go_ret
      exact ⟨z, rfl, HF.out.1, by omega, datB_length i, HF.out.2⟩
set_option maxRecDepth 100000 in
theorem data_ex (w : World) (i : Nat) (hi : i ≤ 1000) : Calls Tryz.prog 11 #[.int .i64 i] w fun e w' => ∃ g, e = .returned (.slice (some ⟨g, 0, none⟩) 40 40) ∧ Chg [] w w' ∧ w.heap.size ≤ g ∧ Fo w' g (datB i) := by
  go_enter Tryz.func11, Tryz.ntmps11
  go_wp2_with fail
  refine (block_ex w i hi).mono ?_
  rintro e w1 ⟨g, rfl, k, hl, hf⟩
  have HF := Lib.hid (And.intro k (And.intro hl hf))
  clear k hl hf
  go_wp2_with fail
  go_ret
  exact ⟨g, rfl, HF.out⟩
set_option maxRecDepth 100000 in
set_option maxHeartbeats 1000000 in
theorem bytes_same (w : World) {ga gb ca cb : Nat} {l : List UInt8} (ha : Bs w (some ⟨ga, 0, none⟩) l) (hb : Bs w (some ⟨gb, 0, none⟩) l) (hl : l.length = 40) : Calls Tryz.prog 21 #[.slice (some ⟨ga, 0, none⟩) 40 ca, .slice (some ⟨gb, 0, none⟩) 40 cb] w fun e w' => e = .returned (.bool true) ∧ Chg [] w w' := by
  have HA := Lib.hid ha
  have HB := Lib.hid hb
  clear ha hb
  go_enter Tryz.func21, Tryz.ntmps21
  go_wp2_with fail
  go_loopw [5] (fun i wr => ∃ j : Nat, j ≤ 40 ∧ i = .int .i64 j ∧ Chg [] w wr) (fun i _ => 40 - (intOf i).toNat)
  case atStart => exact ⟨0, by omega, rfl, Chg.refl _ _⟩
  case round =>
    obtain ⟨j, hj, rfl, kr⟩ := hrel
    by_cases hlt : j < 40
    · have n1 : decide ((j : Int) < 40) = true := decide_eq_true (by omega)
      have hjl : j < l.length := by omega
      have a0 := (HA.out.chg kr).at_ j hjl
      have b0 := (HB.out.chg kr).at_ j hjl
      rw [Nat.zero_add] at a0 b0
      generalize (l[j].toNat : Int) = x at *
      have hx : (x != x) = false := bne_self_eq_false x
      have HK := Lib.hid kr
      clear kr
      go_wp2_with fail
      go_quiet (fail)
      have HK2 := Lib.hid (HK.out.drewN nq)
      clear a0 b0
      go_wp2_with fail
      exact ⟨⟨j + 1, by omega, by simp, HK2.out⟩, by simp [intOf]; omega⟩
    · obtain rfl : j = 40 := by omega
      go_wp2_with fail
      go_ret
      exact ⟨rfl, kr⟩
end Go.Proofs.YtnelakpdmjfolaaGreat
namespace Go.Proofs.YtnelakpdmjfolaaGreat
open Go.RowKit Go.Lib

set_option maxRecDepth 100000 in
theorem least24 (w : World) : Calls Tryz.prog 6 #[] w fun e w' => e = .returned (.agg #[.int .i64 8, .int .i64 96]) ∧ Chg [] w w' := by
  have k1 : Chg [] w (w.alloc (.cells #[.int .i64 8, .int .i64 96] 24)) := Chg.alloc w _
  have y1 := heap_new w (.cells #[.int .i64 8, .int .i64 96] 24)
  have c0 := cell_is y1 0 rfl
  have c1 := cell_is y1 1 rfl
  go_enter Tryz.func6, Tryz.ntmps6
  go_wp2_with fail
  refine bodyPost_ret (v := .agg #[.int .i64 8, .int .i64 96]) (by simp [results, Tryz.results6, go_sem]) rfl ?_
  exact ⟨rfl, k1⟩
/-- a new world of law 24: block K, its store, all of it new. -/
def Fr24 (w : World) (e : Ending) (w' : World) : Prop :=
  ∃ K G d ops, e = .returned (.tuple #[.pointer (some ⟨K, 0, none⟩), .bool true]) ∧ Chg [] w w' ∧ w'.heap[K]? = some (.cells #[.pointer (some ⟨d.N, 0, none⟩), .pointer (some ⟨d.P, 0, none⟩), .pointer (some ⟨G, 0, none⟩), .int .i64 0] 57 (0, 0)) ∧
    Sto w' w.heap.size d (s00 w.heap.size) (g00 w.heap.size ops) ∧ (0 ≤ ops ∧ ops ≤ 2)
set_option maxRecDepth 100000 in
set_option maxHeartbeats 4000000 in
theorem fresh24 (w : World) : Calls Tryz.prog 22 #[.agg #[.int .i64 8, .int .i64 96]] w (Fr24 w) := by
  have kg : Chg [] w (w.alloc (.cells #[.int .i64 8, .int .i64 96] 24)) := Chg.alloc w _
  have g0 := heap_new w (.cells #[.int .i64 8, .int .i64 96] 24)
  have a0 : (w.alloc (.cells #[.int .i64 8, .int .i64 96] 24)).cell? ⟨w.heap.size, 0, none⟩ = some (.int .i64 8) := cell_is g0 0 rfl
  have a1 : (w.alloc (.cells #[.int .i64 8, .int .i64 96] 24)).cell? ⟨w.heap.size, 1, none⟩ = some (.int .i64 96) := cell_is g0 1 rfl
  go_enter Tryz.func22, Tryz.ntmps22
  go_wp2_with fail
  generalize w.alloc (.cells #[.int .i64 8, .int .i64 96] 24) = w0 at *
  have hw0 := kg.size
  generalize hz0 : w.heap.size = z0 at *
  refine (new_any2 w0).mono ?_
  rintro e w1 ⟨N, A, c, Z, rfl, k1, hD, hO, lN, lA, lZ, hAx, hZn⟩
  have g1 := k1.heap g0 (by simp)
  have hs1 := k1.size
  have hAl := hD.A_lt
  have hNl := heap_lt hD.1
  have hZl : ∀ z ∈ Z, z < w1.heap.size := fun z hz => by
    obtain ⟨j, hj, e⟩ := List.getElem_of_mem hz
    rw [← e]
    exact heap_lt (hD.2.2.2.2 j hj)
  clear a0 a1
  go_wp2_with fail
  refine (mount_any w1 hD hO hZl (by omega) (by omega)).mono ?_
  rintro e w2 ⟨P, S, M, X, rx, B, rb, r, rfl, hM, lP, lS, lM, lX, lrx, lB, lrb, lr, n1, n2, n3⟩
  have h0l := heap_lt g0
  have k2 := hM.1
  have hX2 : ExAt w2 S N A Z := by
    obtain ⟨cs, hAx⟩ := hAx
    exact ⟨hM.2.2.2.1, ⟨cs, k2.heap hAx (by intro hm; rcases List.mem_cons.1 hm with e | hm; exact hO.1 e; exact hO.2.2 hm)⟩, hZn⟩
  have g2 := k2.heap g1 (by
    intro hm
    rcases List.mem_cons.1 hm with e | hm
    · omega
    · have := lZ _ hm; omega)
  have hs2 := k2.size
  have b0 : w2.cell? ⟨z0, 0, none⟩ = some (.int .i64 8) := cell_is g2 0 rfl
  have b1 : w2.cell? ⟨z0, 1, none⟩ = some (.int .i64 96) := cell_is g2 1 rfl
  have hSt := hM.sto (lw := z0) hX2 n1 n2 n3 (by omega) (fun z hz => by have := lZ z hz; omega) (by omega)
  have kk2 : Chg [] w w2 := (kg.then k1).trans k2 (fun x hx hlt => by
    rcases List.mem_cons.1 hx with e | hx
    · have := kg.size; omega
    · have := lZ x hx; have := kg.size; omega)
  have HM := Lib.hid hM
  clear hD hO hM hX2 k2 g1 g0 k1 kg
  go_wp2_with fail
  refine (rcap_min w2).mono ?_
  rintro e w3 ⟨rfl, k3⟩
  have h3 := hSt.keep k3
  have kk3 := kk2.then k3
  clear b0 b1
  go_wp2_with fail
  refine (rm_new w3).mono ?_
  rintro e w4 ⟨G, Y, rfl, k4, -, lG⟩
  have h4 := h3.keep k4
  have kk4 := kk3.then k4
  have g4 := (k3.then k4).heap g2 (by simp)
  have HM4 := Lib.hid (HM.out.keep (k3.then k4))
  have H4 := Lib.hid (And.intro kk4 h4)
  have b0 : w4.cell? ⟨z0, 0, none⟩ = some (.int .i64 8) := cell_is g4 0 rfl
  have b1 : w4.cell? ⟨z0, 1, none⟩ = some (.int .i64 96) := cell_is g4 1 rfl
  clear h3 h4 hSt kk3 kk2 kk4 k3 k4 g2 HM
  have kk : Chg [] w4 w4 := Chg.refl _ _
  have hh : ∀ wx, Chg [] w4 wx → Chg [] w4 wx ∧ wx.cell? ⟨z0, 0, none⟩ = some (.int .i64 8) ∧ wx.cell? ⟨z0, 1, none⟩ = some (.int .i64 96) := fun wx k => ⟨k, k.cell b0 (by simp), k.cell b1 (by simp)⟩
  have hBl : ∀ wx, Chg [] w4 wx → Calls Tryz.prog 10 #[.pointer (some ⟨P, 0, none⟩)] wx fun e w' => e = .returned (.int .i64 258) ∧ Chg [] wx w' := fun wx k => by
    have h := HM4.out.keep k
    exact sblocks_any wx h.2.2.1 h.2.1
  have HBl := Lib.hid hBl
  have hfin : ∀ K wx, Chg [] w4 wx → wx.heap[K]? = some (.cells #[.pointer (some ⟨N, 0, none⟩), .pointer (some ⟨P, 0, none⟩), .pointer (some ⟨G, 0, none⟩), .int .i64 0] 57 (0, 0)) → Fr24 w (.returned (.tuple #[.pointer (some ⟨K, 0, none⟩), .bool true])) wx := fun K wx k y =>
    ⟨K, G, d00 N A c Z P S M X rx B rb r, 0 + 1, rfl, H4.out.1.then k, y, by rw [hz0]; exact H4.out.2.keep k, by omega⟩
  have HFin := Lib.hid hfin
  have HH := Lib.hid hh
  clear hBl hh hfin
  go_wp2_with fail
  go_region_held3 (fun wx => Chg [] w4 wx ∧ wx.cell? ⟨z0, 0, none⟩ = some (.int .i64 8) ∧ wx.cell? ⟨z0, 1, none⟩ = some (.int .i64 96))
    (first
      | (exact HH.out _ kk)
      | (exact HH.out _ kk.drew)
      | (exact HH.out _ (kk.then_alloc _))
      | (exact HH.out _ (kk.drew.then_alloc _)))
    (first
      | (go_at_call 10; refine (HBl.out _ (by first | exact kk | exact kk.drew | exact kk.then_alloc _ | exact kk.drew.then_alloc _)).mono ?_; rintro e wb ⟨rfl, kb⟩; replace kk : Chg [] w4 wb := (by first | exact kk.then kb | exact kk.drew.then kb | exact (kk.then_alloc _).then kb | exact (kk.drew.then_alloc _).then kb))
      | (go_at_call 59; refine (rcap_min _).mono ?_; rintro e wc ⟨rfl, kc⟩; replace kk : Chg [] w4 wc := (by first | exact kk.then kc | exact kk.drew.then kc | exact (kk.then_alloc _).then kc | exact (kk.drew.then_alloc _).then kc)))
  all_goals
    have HK := Lib.hid (And.intro kb (And.intro kc kk))
    clear kb kc kk
    go_wp2_with fail
    go_ret2
    first
      | (exact HFin.out _ _ HK.out.2.2 ((HK.out.1.then HK.out.2.1).heap (heap_new w4 _) (by simp)))
      | (exact HFin.out _ _ HK.out.2.2 (HK.out.2.1.heap (heap_new wb _) (by simp)))
      | (exact HFin.out _ _ (HK.out.2.2.then_alloc _) (heap_new wc _))
      | (exact HFin.out _ _ (HK.out.2.2.drew.then_alloc _) (heap_new wc _))
end Go.Proofs.YtnelakpdmjfolaaGreat
namespace Go.Proofs.YtnelakpdmjfolaaGreat
open Go.RowKit Go.Lib

theorem Ow.chg0 {base : Nat} {w0 w w' : World} (h : Chg [] w0 w) (k : Ow base w w') (hb : w0.heap.size ≤ base) : Chg [] w0 w' := by
  obtain ⟨T, h1, h2⟩ := k
  exact h.trans h1 (fun x hx hlt => by have := (h2 x hx).1; omega)
/-- a store with an open transaction: base, its parts. -/
def A1 (lw : Nat) (d : Ids) (ops : Int) (q : Int → List UInt8) (L : List (Int × Value)) (w : World) : Prop :=
  ∃ base d', d'.P = d.P ∧ d'.N = d.N ∧ Fr base d' (begP (s00 lw)) (StoF lw d' (begS (s00 lw) d'.T) (g00 lw ops)) ∧ Su w base d' (begP (s00 lw)) (StoF lw d' (begS (s00 lw) d'.T) (g00 lw ops)) q L 0 ∧ lw ≤ d'.T ∧ lw ≤ base
theorem A1.keep {lw : Nat} {d : Ids} {ops : Int} {q : Int → List UInt8} {L : List (Int × Value)} {w w' : World} (h : A1 lw d ops q L w) (hc : Chg [] w w') : A1 lw d ops q L w' := by
  obtain ⟨base, d', h1, h2, h3, h4, h5, h6⟩ := h
  exact ⟨base, d', h1, h2, h3, h4.keep h3 hc, h5, h6⟩
theorem A1.size {lw : Nat} {d : Ids} {ops : Int} {q : Int → List UInt8} {L : List (Int × Value)} {w : World} (h : A1 lw d ops q L w) : lw ≤ w.heap.size := by
  obtain ⟨base, d', h1, h2, h3, h4, h5, h6⟩ := h
  have hS : Sto w lw d' (begS (s00 lw) d'.T) (g00 lw ops) := h4.env
  exact hS.slo
/-- what begin leaves. -/
theorem beg24 (w : World) {lw : Nat} {d : Ids} {ops : Int} (h : Sto w lw d (s00 lw) (g00 lw ops)) : Calls Tryz.prog 9 #[.pointer (some ⟨d.P, 0, none⟩)] w fun e w' => e = .returned (.tuple #[.int .i64 1, .int .i64 0]) ∧ Cs lw w w' ∧ ∃ q, A1 lw d ops q [] w' := by
  have hl : d.rx < w.heap.size ∧ d.rb < w.heap.size ∧ d.r < w.heap.size := ⟨h.mx.ver.m.lt, h.mx.book.2.lt, h.mx.map.lt⟩
  have hlw : lw ≤ w.heap.size := h.slo
  refine (sbegin_gen w h rfl (show (0 : Int) ≤ 0 by decide) (show (0 : Int) ≤ 1099511627776 by decide) (show (0 : Int) ≤ 0 by decide) (show (0 : Int) ≤ 1000000 by decide)).mono ?_
  rintro e w' ⟨rfl, T, W, rw, Q, V, c1, hT, hSu⟩
  exact ⟨rfl, c1, _, w.heap.size, { d with T := T, W := W, rw := rw, Q := Q, V := V }, rfl, rfl, fr_sto hl rfl rfl rfl rfl rfl, hSu, Nat.le_trans hlw hT, hlw⟩
/-- .. a put of forty bytes is written. -/
theorem wri24 (w : World) {lw : Nat} {d : Ids} {ops : Int} {q : Int → List UInt8} {E D c cp : Nat} {b : Int} {l : List UInt8} (h : A1 lw d ops q [] w) (e0 : w.cell? ⟨E, 0, none⟩ = some (.int .i64 b)) (e1 : w.cell? ⟨E, 1, none⟩ = some (.slice (some ⟨D, 0, none⟩) 40 c)) (hb : Bs w (some ⟨D, 0, none⟩) l) (hl : l.length = 40) (h0 : 0 ≤ b) (h1 : b < 258) :
    Calls Tryz.prog 12 #[.pointer (some ⟨d.P, 0, none⟩), .int .i64 1, .slice (some ⟨E, 0, none⟩) 1 cp] w fun e w' => e = .returned (.int .i64 0) ∧ (∃ base, lw ≤ base ∧ Ow base w w') ∧ ∃ v, A1 lw d ops (putQ q b l) [(b, v)] w' := by
  obtain ⟨base, d', eP, eN, hf, hs, hT, hbs⟩ := h
  rw [← eP]
  refine (swrite_gen w (cp := cp) (eo := 0) hf hs e0 e1 hb hl h0 h1 (by simp)).mono ?_
  rintro e w' ⟨v, rfl, ho, hs'⟩
  exact ⟨rfl, ⟨base, hbs, ho⟩, v, base, d', eP, eN, hf, hs', hT, hbs⟩
/-- a store with a transaction that waits. -/
def A3 (lw : Nat) (d : Ids) (ops : Int) (q : Int → List UInt8) (L : List (Int × Value)) (w : World) : Prop :=
  ∃ d' gq cq, d'.P = d.P ∧ d'.N = d.N ∧ Sto w lw d' (comS (begS (s00 lw) d'.T) gq cq) (g00 lw ops) ∧ Wtx w d' (comS (begS (s00 lw) d'.T) gq cq) gq cq 1 1 0 0 L q ∧ lw ≤ d'.T
theorem A3.keep {lw : Nat} {d : Ids} {ops : Int} {q : Int → List UInt8} {L : List (Int × Value)} {w w' : World} (h : A3 lw d ops q L w) (hc : Chg [] w w') : A3 lw d ops q L w' := by
  obtain ⟨d', gq, cq, h1, h2, h3, h4, h5⟩ := h
  exact ⟨d', gq, cq, h1, h2, h3.keep hc, h4.keep hc, h5⟩
theorem com24 (w : World) {lw : Nat} {d : Ids} {ops : Int} {q : Int → List UInt8} {L : List (Int × Value)} (h : A1 lw d ops q L w) (hl0 : 0 < L.length) (hl : L.length ≤ 16) : Calls Tryz.prog 13 #[.pointer (some ⟨d.P, 0, none⟩), .int .i64 1] w fun e w' => e = .returned (.int .i64 0) ∧ Cs lw w w' ∧ A3 lw d ops q L w' := by
  have hsz := h.size
  obtain ⟨base, d', eP, eN, hf, hs, hT, hbs⟩ := h
  rw [← eP]
  refine (scommit_sto w (loq := lw) (n := 0) (k := 1) hf hs rfl (World.ownsRow_nil _ _ _ _) hsz (Nat.le_refl _) rfl ⟨fun p hp => (by cases hp), fun b x hx => (by cases hx)⟩ rfl (show (0 : Int) < 1099511627776 by decide) (show (0 : Int) ≤ 0 by decide) hl hl0 (by omega) rfl rfl hT).mono ?_
  rintro e w' ⟨rfl, gq, cq, h1, h2, h3⟩
  exact ⟨rfl, h3, d', gq, cq, eP, eN, h1, h2, hT⟩
/-- a device with one batch, all of it for good. -/
def A4 (d : Ids) (l : List (Int × List UInt8)) (w : World) : Prop :=
  ∃ base A c ops Z vs gs zs, DevG w base d.N A c ops Z vs gs zs ∧ (∀ j, j < 8 → gs j = (zs j).length) ∧ (∀ j, j ≠ 6 → zs j = []) ∧ zs 6 = logL 0 1 [(1, l)]
theorem A4.keep {d : Ids} {l : List (Int × List UInt8)} {w w' : World} (h : A4 d l w) (hc : Chg [] w w') : A4 d l w' := by
  obtain ⟨base, A, c, ops, Z, vs, gs, zs, h1, h2⟩ := h
  exact ⟨base, A, c, ops, Z, vs, gs, zs, h1.keep hc (Av.nil _ _), h2⟩
theorem flu24 (w : World) {lw : Nat} {d : Ids} {ops : Int} {q : Int → List UInt8} {L : List (Int × Value)} (h : A3 lw d ops q L w) (hops : 0 ≤ ops ∧ ops ≤ 2) : Calls Tryz.prog 14 #[.pointer (some ⟨d.P, 0, none⟩)] w fun e w' => e = .returned (.int .i64 0) ∧ Cs lw w w' ∧ A4 d (putsL L q) w' := by
  obtain ⟨d', gq, cq, eP, eN, hS, hW, hT⟩ := h
  have hlw : lw ≤ w.heap.size := hS.slo
  have hL := hW.len
  rw [← eP]
  refine (sflush_ok w (k := 1) hS hW rfl hT hlw (by decide) (show (0 : Int) < 1 by decide) (by decide) (fun c => (show 0 + 16 < 1000000 by decide)) (show (0 : Int) ≤ 0 by decide) (show (0 : Int) ≤ 100000000 by decide) (by show 0 + L.length + 1 ≤ 96; omega) (by show 0 + L.length + 1 ≤ 96; omega) (show 0 ≤ ops by omega) (show ops ≤ 900000 by omega) (show 0 < 4294967296 by decide) (show 0 < 1000000000 by decide)).mono ?_
  rintro e w' ⟨rfl, z, Lv', v6, h1, h2, -⟩
  refine ⟨rfl, h2, _, d'.A, d'.c, _, d'.Z, _, _, _, by rw [← eN]; exact h1.dev, fun j hj => ?_, fun j hj => ?_, ?_⟩
  · simp [doneG, goodF, hj]
  · simp [doneG, upF, hj, g00]
  · simp [doneG, upF, g00, logL]
end Go.Proofs.YtnelakpdmjfolaaGreat
namespace Go.Proofs.YtnelakpdmjfolaaGreat
open Go.RowKit Go.Lib

theorem data1 (w : World) : Calls Tryz.prog 11 #[.int .i64 1] w fun e w' => ∃ g, e = .returned (.slice (some ⟨g, 0, none⟩) 40 40) ∧ Chg [] w w' ∧ w.heap.size ≤ g ∧ Fo w' g (datB 1) := data_ex w 1 (by decide)
theorem sortI_one (k : Int) : sortI [k] = [k] := by simp [sortI]
theorem putsL_one (k : Int) (v : Value) (D : Int → List UInt8) : putsL [(k, v)] D = [(k, D k)] := by simp [putsL, sortI]
theorem fin_one (k : Int) (b : List UInt8) : finL [(k, b)] = [(k, b)] := by simp [finL, appK, appD, sortI]
theorem getL_mem {L : List (Int × Value)} {k : Int} {v : Value} (h : getL L k = some v) : k ∈ L.map Prod.fst := by
  induction L with
  | nil => cases h
  | cons p l ih =>
    simp only [getL] at h
    by_cases e : k = p.1
    · simp [e]
    · rw [if_neg e] at h
      exact List.mem_cons_of_mem _ (ih h)
theorem ver_one {w : World} {lo X rx : Nat} {last : Int} {L : List (Int × Value)} {k : Int} {b : List UInt8} (h : VerG w lo X rx last L (applyV (fun _ => []) k [(5, b)])) (hk : ∀ p ∈ L, 0 ≤ p.1 ∧ p.1 < 258) : L.map Prod.fst = [5] ∧ dumpL L (applyV (fun _ => []) k [(5, b)]) = [(5, b)] := by
  have hv : ∀ j, applyV (fun _ => []) k [(5, b)] j = if j = 5 then [(k, b)] else [] := fun j => by simp [applyV, addV]
  have h5 : L.map Prod.fst = [5] := by
    have hall : ∀ x ∈ L.map Prod.fst, x = 5 := by
      intro x hx
      obtain ⟨v, hg⟩ := getL_key hx
      obtain ⟨p, hp, rfl⟩ := List.mem_map.1 hx
      have hb := hk p hp
      rcases h.row p.1 hb.1 hb.2 with ⟨e, -⟩ | ⟨_, _, _, e⟩
      · rw [hg] at e; cases e
      · rw [hv] at e
        by_cases e5 : p.1 = 5
        · exact e5
        · rw [if_neg e5] at e
          exact absurd rfl e
    have hmem : (5 : Int) ∈ L.map Prod.fst := by
      rcases h.row 5 (by decide) (by decide) with ⟨-, e⟩ | ⟨v, e, -⟩
      · rw [hv] at e
        simp at e
      · exact getL_mem e
    have hnd := h.m.nodup
    generalize L.map Prod.fst = K at *
    match K, hall, hmem, hnd with
    | [x], hall, _, _ => rw [hall x (by simp)]
    | x :: y :: K, hall, _, hnd =>
      have e1 := hall x (by simp)
      have e2 := hall y (by simp)
      subst e1
      subst e2
      simp at hnd
  refine ⟨h5, ?_⟩
  rw [dumpL, h5, sortI_one]
  simp [hv, lastB]
theorem bs_one (b : List UInt8) (hb : b.length = 40) : BsOk [(1, [(5, b)])] := by
  refine ⟨fun i h => ?_, fun i h => ?_, ?_, by simp⟩
  · obtain rfl : i = 0 := by simpa using h
    exact ⟨by simp [lastT], by simp⟩
  · obtain rfl : i = 0 := by simpa using h
    refine ⟨by simp, by simp, fun j hj => by simp at hj, fun x hx => ?_, fun x hx => ?_⟩
    · have : x = (5, b) := by simpa using hx
      subst this
      exact ⟨show (0 : Int) ≤ 5 by decide, show (5 : Int) < 258 by decide⟩
    · have : x = (5, b) := by simpa using hx
      subst this
      exact hb
  · simp [logL, batL_length]
theorem fin_all (k : Nat) (b : List UInt8) : finL (allP [(k, [(5, b)])]) = [(5, b)] := fin_one 5 b
/-- a device that a crash left is mounted. -/
theorem mount_one (w : World) {b : List UInt8} {w0 : World} {N A c : Nat} {Z : List Nat} {vs : Nat → Value} {gs : Nat → Nat} {zs : Nat → List (List UInt8)} {base : Nat} (hb : b.length = 40) (hD : DevG w base N A c 0 Z vs gs zs) (hz : zs 0 = [] ∧ zs 3 = [] ∧ zs 7 = []) (h6 : zs 6 = logL 0 1 [(1, [(5, b)])]) (k : Chg [] w0 w) (lN : w0.heap.size ≤ N) (lZ : ∀ z ∈ Z, w0.heap.size ≤ z) :
    Calls Tryz.prog 8 #[.pointer (some ⟨N, 0, none⟩)] w fun e w' => ∃ P S M X rx B r lo Lv pos num, e = .returned (.tuple #[.pointer (some ⟨P, 0, none⟩), .int .i64 0]) ∧ Chg [] w0 w' ∧ StoreG w' P N S M pos num ∧ MgrG w' M X B r (.slice none 0 0) 0 0 1 1 1 false ∧ VerG w' lo X rx 1 Lv (applyV (fun _ => []) 1 [(5, b)]) ∧ (∀ p ∈ Lv, 0 ≤ p.1 ∧ p.1 < 258) ∧ Lv.length ≤ 1000 := by
  have e6 : (zs 6).length = 2 := by rw [h6]; simp [logL, batL_length]
  have hf : (finL (allP [(1, [(5, b)])])).length = 1 := by rw [fin_all]; rfl
  have hlt : ∀ z ∈ Z, z < w.heap.size := fun z hz => by
    obtain ⟨j, hj, e⟩ := List.getElem_of_mem hz
    rw [← e]
    exact heap_lt (hD.zone j hj)
  refine (kmount w hD.k hz h6 (bs_one b hb) (by simp) (by omega) (by omega) (by omega) hlt (heap_lt hD.hdr) (by decide) (by decide) (by decide) (by decide) (show 0 < 1 ∧ 1 ≤ 1099511627776 by decide) (fun x hx => ?_)).mono ?_
  · have : x = (5, b) := by simpa [allP] using hx
    subst this
    exact ⟨show (0 : Int) ≤ 5 by decide, show (5 : Int) < 258 by decide⟩
  · rintro e w' ⟨P, S, M, X, rx, B, rb, r, lo, Lv, rfl, h⟩
    rw [fin_all] at h
    have hV : VerG w' lo X rx 1 Lv (applyV (fun _ => []) 1 [(5, b)]) := h.ver
    refine ⟨P, S, M, X, rx, B, r, lo, Lv, _, _, rfl, k.trans h.chg (fun x hx hlt => ?_), h.store, h.mgr, hV, h.keys, ?_⟩
    · rcases List.mem_cons.1 hx with e | hx
      · omega
      · have := lZ x hx; omega
    · have := congrArg List.length (ver_one hV h.keys).1
      rw [List.length_map] at this
      simp at this
      omega
/-- what stands in a world of law 24. -/
def W24 (w0 : World) (K G : Nat) (d : Ids) (F : World → Prop) (w : World) : Prop :=
  F w ∧ w.heap[K]? = some (.cells #[.pointer (some ⟨d.N, 0, none⟩), .pointer (some ⟨d.P, 0, none⟩), .pointer (some ⟨G, 0, none⟩), .int .i64 0] 57 (0, 0)) ∧ Chg [] w0 w
theorem W24.keep {w0 : World} {K G : Nat} {d : Ids} {F : World → Prop} {w w' : World} (hF : ∀ a b, F a → Chg [] a b → F b) (h : W24 w0 K G d F w) (hc : Chg [] w w') : W24 w0 K G d F w' := ⟨hF _ _ h.1 hc, hc.heap h.2.1 (by simp), h.2.2.then hc⟩
theorem W24.p {w0 : World} {K G : Nat} {d : Ids} {F : World → Prop} {w : World} (h : W24 w0 K G d F w) : w.cell? ⟨K, 1, none⟩ = some (.pointer (some ⟨d.P, 0, none⟩)) := cell_is h.2.1 1 rfl
theorem W24.n {w0 : World} {K G : Nat} {d : Ids} {F : World → Prop} {w : World} (h : W24 w0 K G d F w) : w.cell? ⟨K, 0, none⟩ = some (.pointer (some ⟨d.N, 0, none⟩)) := cell_is h.2.1 0 rfl
set_option maxRecDepth 100000 in
set_option maxHeartbeats 8000000 in
theorem awake24 (w : World) : Calls Tryz.prog 5 #[] w fun e w' => e = .returned (.bool true) ∧ Chg [] w w' := by
  go_enter Tryz.func5, Tryz.ntmps5
  go_wp2_with fail
  refine (least24 w).mono ?_
  rintro e w1 ⟨rfl, k1⟩
  go_wp2_with fail
  refine (fresh24 w1).mono ?_
  rintro e w2 ⟨K, G, d, ops, rfl, k2, hK, hS, ho⟩
  have c1 : w2.cell? ⟨K, 1, none⟩ = some (.pointer (some ⟨d.P, 0, none⟩)) := cell_is hK 1 rfl
  have HB := Lib.hid (beg24 w2 hS)
  have H2 := Lib.hid (And.intro k1 (And.intro k2 (And.intro hK ho)))
  clear k1 k2 hK hS ho
  go_wp2_with fail
  refine HB.out.mono ?_
  rintro e w3 ⟨rfl, cs3, q, hA3⟩
  have h3 : W24 w1 K G d (A1 w1.heap.size d ops q []) w3 := ⟨hA3, cs3.heap H2.out.2.2.1 (by decide), Cs.chg0 H2.out.2.1 cs3 (Nat.le_refl _)⟩
  have f1 : ∀ a b, A1 w1.heap.size d ops q [] a → Chg [] a b → A1 w1.heap.size d ops q [] b := fun a b h k => h.keep k
  have hWr : ∀ w4 D, W24 w1 K G d (A1 w1.heap.size d ops q []) w4 → Fo w4 D (datB 1) → ∀ wx E cp, Chg [] w4 wx → wx.heap[E]? = some (.cells #[.int .i64 5, .slice (some ⟨D, 0, none⟩) 40 40] 41 (0, 0)) →
      Calls Tryz.prog 12 #[.pointer (some ⟨d.P, 0, none⟩), .int .i64 1, .slice (some ⟨E, 0, none⟩) 1 cp] wx fun e w' => e = .returned (.int .i64 0) ∧ ∃ v, W24 w1 K G d (A1 w1.heap.size d ops (putQ q 5 (datB 1)) [(5, v)]) w' := fun w4 D h4 hF wx E cp kx hE => by
    have hx := h4.keep f1 kx
    refine (wri24 wx (cp := cp) hx.1 (cell_is hE 0 rfl) (cell_is hE 1 rfl) (hF.bs.chg kx) (datB_length 1) (by decide) (by decide)).mono ?_
    rintro e w' ⟨rfl, ⟨b, hb, o⟩, v, hA⟩
    exact ⟨rfl, v, hA, o.heap hx.2.1 (by decide), Ow.chg0 hx.2.2 o hb⟩
  have hCo : ∀ v wx, W24 w1 K G d (A1 w1.heap.size d ops (putQ q 5 (datB 1)) [(5, v)]) wx → Calls Tryz.prog 13 #[.pointer (some ⟨d.P, 0, none⟩), .int .i64 1] wx fun e w' => e = .returned (.int .i64 0) ∧ W24 w1 K G d (A3 w1.heap.size d ops (putQ q 5 (datB 1)) [(5, v)]) w' := fun v wx hx => by
    refine (com24 wx hx.1 (by simp) (by simp)).mono ?_
    rintro e w' ⟨rfl, c, hA⟩
    exact ⟨rfl, hA, c.heap hx.2.1 (by decide), Cs.chg0 hx.2.2 c (Nat.le_refl _)⟩
  have hFl : ∀ v wx, W24 w1 K G d (A3 w1.heap.size d ops (putQ q 5 (datB 1)) [(5, v)]) wx → Calls Tryz.prog 14 #[.pointer (some ⟨d.P, 0, none⟩)] wx fun e w' => e = .returned (.int .i64 0) ∧ W24 w1 K G d (A4 d [(5, datB 1)]) w' := fun v wx hx => by
    refine (flu24 wx hx.1 H2.out.2.2.2).mono ?_
    rintro e w' ⟨rfl, c, hA⟩
    rw [putsL_one, show putQ q 5 (datB 1) 5 = datB 1 by simp [putQ]] at hA
    exact ⟨rfl, hA, c.heap hx.2.1 (by decide), Cs.chg0 hx.2.2 c (Nat.le_refl _)⟩
  have f1' : ∀ {v : Value} a b, A1 w1.heap.size d ops (putQ q 5 (datB 1)) [(5, v)] a → Chg [] a b → A1 w1.heap.size d ops (putQ q 5 (datB 1)) [(5, v)] b := fun a b h k => h.keep k
  have f3 : ∀ {v : Value} a b, A3 w1.heap.size d ops (putQ q 5 (datB 1)) [(5, v)] a → Chg [] a b → A3 w1.heap.size d ops (putQ q 5 (datB 1)) [(5, v)] b := fun a b h k => h.keep k
  have HWr := Lib.hid hWr
  have HCo := Lib.hid hCo
  have HFl := Lib.hid hFl
  clear hWr hCo hFl hA3 cs3 c1 HB
  have p3 := h3.p
  have p3d : w3.drew.cell? ⟨K, 1, none⟩ = some (.pointer (some ⟨d.P, 0, none⟩)) := p3
  go_wp2_with fail
  go_region_held3 (fun wx => wx.cell? ⟨K, 1, none⟩ = some (.pointer (some ⟨d.P, 0, none⟩)))
    (first
      | (exact p3)
      | (exact p3d)
      | (exact pA _)
      | (exact p5)
      | (exact p5d)
      | (exact p6)
      | (exact p6d)
      | (exact p7)
      | (exact p7d))
    (first
      | (go_at_call 11; refine (data1 _).mono ?_; rintro e w4 ⟨D, rfl, k4, lD, hF⟩; have h4 : W24 w1 K G d (A1 w1.heap.size d ops q []) w4 := (by first | exact h3.keep f1 k4 | exact h3.keep f1 ((Chg.refl [] w3).drew.then k4)); have p3 := h4.p; have p3d : w4.drew.cell? ⟨K, 1, none⟩ = some (.pointer (some ⟨d.P, 0, none⟩)) := p3; have pA : ∀ o, (w4.alloc o).cell? ⟨K, 1, none⟩ = some (.pointer (some ⟨d.P, 0, none⟩)) := fun o => (Chg.alloc (S := []) w4 o).cell p3 (by simp))
      | (go_at_call 12; refine (HWr.out w4 D h4 hF _ _ _ (by first | exact Chg.alloc _ _ | exact (Chg.alloc _ _).drew | exact (Chg.refl [] _).drew.then_alloc _) (by first | exact heap_new _ _)).mono ?_; rintro e w5 ⟨rfl, v5, h5⟩; have p5 := h5.p; have p5d : w5.drew.cell? ⟨K, 1, none⟩ = some (.pointer (some ⟨d.P, 0, none⟩)) := p5)
      | (go_at_call 13; refine (HCo.out v5 _ (by first | exact h5 | exact h5.keep f1' (Chg.refl [] w5).drew)).mono ?_; rintro e w6 ⟨rfl, h6⟩; have p6 := h6.p; have p6d : w6.drew.cell? ⟨K, 1, none⟩ = some (.pointer (some ⟨d.P, 0, none⟩)) := p6)
      | (go_at_call 14; refine (HFl.out v5 _ (by first | exact h6 | exact h6.keep f3 (Chg.refl [] w6).drew)).mono ?_; rintro e w7 ⟨rfl, h7⟩; have p7 := h7.p; have p7d : w7.drew.cell? ⟨K, 1, none⟩ = some (.pointer (some ⟨d.P, 0, none⟩)) := p7))
  all_goals
    have n7 := h7.n
    obtain ⟨base, A, c, ops', Z, vs, gs, zs, hD, hgs, hz, hz6⟩ := h7.1
    have hz96 : ∀ j, j < 8 → (zs j).length ≤ 96 := fun j hj => by
      by_cases e : j = 6
      · subst e
        rw [hz6]
        simp [logL, batL_length]
      · rw [hz j e]
        simp
    have HCr := Lib.hid (crash_ok w7 hD.k hgs hz96 (pick_nil w7) (pick_nil w7))
    have H7 := Lib.hid (H2.out.1.then h7.2.2)
    have HZ := Lib.hid (And.intro hz hz6)
    clear h7 hD hgs hz hz6 hz96 h6 h5 h4 h3 p3 p3d pA p5 p5d p6 p6d p7 p7d hF k4 lD f1 f1' f3
    go_wp2_with fail
    refine HCr.out.mono ?_
    rintro e w8 ⟨N', A', c', Z', vs', rfl, k8, hD8, lN, lA, lZ⟩
    have HMt := Lib.hid (mount_one w8 (datB_length 1) hD8 ⟨by simp [cutZ, HZ.out.1], by simp [cutZ, HZ.out.1], by simp [cutZ, HZ.out.1]⟩ (by simp [cutZ, HZ.out.2]) k8 lN lZ)
    clear hD8 HCr HZ k8 lN lA lZ
    go_wp2_with fail
    refine HMt.out.mono ?_
    rintro e w9 ⟨P, S, M, X, rx, B, r, lo, Lv, pos, num, rfl, k9, hSt, hMg, hVe, hke, hle⟩
    have HDp := Lib.hid (sdump_ok w9 hSt hMg hVe hke hle)
    have HLa := Lib.hid (And.intro hSt hMg)
    have HEq := Lib.hid (ver_one hVe hke).2
    have H9 := Lib.hid (H7.out.then k9)
    clear HMt k9 hSt hMg hVe hke hle
    go_wp2_with fail
    refine HDp.out.mono ?_
    rintro e w10 ⟨v, rfl, k10, hp⟩
    rw [HEq.out] at hp
    obtain ⟨g, cap, gd, cd, hv, hcap, d0, d1, hb, -, -⟩ := hp.get 0 (by simp)
    have hv2 : v = .slice (some ⟨g, 0, none⟩) 1 cap := hv
    subst hv2
    have d0' : w10.cell? ⟨g, 0, none⟩ = some (.int .i64 5) := d0
    have d1' : w10.cell? ⟨g, 1, none⟩ = some (.slice (some ⟨gd, 0, none⟩) 40 cd) := d1
    have hb' : Bs w10 (some ⟨gd, 0, none⟩) (datB 1) := hb
    have hcap1 : 1 ≤ cap := hcap
    have kk : Chg [] w10 w10 := Chg.refl _ _
    have hh : ∀ wx, Chg [] w10 wx → wx.cell? ⟨g, 0, none⟩ = some (.int .i64 5) ∧ wx.cell? ⟨g, 1, none⟩ = some (.slice (some ⟨gd, 0, none⟩) 40 cd) := fun wx k => ⟨k.cell d0' (by simp), k.cell d1' (by simp)⟩
    have HH := Lib.hid hh
    have HBb := Lib.hid hb'
    have HK := Lib.hid k10
    clear hp hv hcap d0 d1 hb hb' hh HDp HEq
    go_wp2_with fail
    go_region_held3 (fun wx => wx.cell? ⟨g, 0, none⟩ = some (.int .i64 5) ∧ wx.cell? ⟨g, 1, none⟩ = some (.slice (some ⟨gd, 0, none⟩) 40 cd))
      (first
        | (exact HH.out _ kk)
        | (exact HH.out _ kk.drew))
      (first
        | (go_at_call 11; refine (data1 _).mono ?_; rintro e w11 ⟨D2, rfl, k11, lD2, hF2⟩; replace kk : Chg [] w10 w11 := (by first | exact kk.then k11 | exact kk.drew.then k11))
        | (go_at_call 21; refine (bytes_same _ (by first | exact HBb.out.chg kk | exact HBb.out.chg kk.drew) (by first | exact hF2.bs | exact hF2.bs.chg (Chg.refl [] w11).drew) (datB_length 1)).mono ?_; rintro e w12 ⟨rfl, k12⟩; replace kk : Chg [] w10 w12 := (by first | exact kk.then k12 | exact kk.drew.then k12))
        | (go_at_call 18; refine (slast_ok _ (by first | exact (HK.out.then kk).heap HLa.out.1 (by simp) | exact (HK.out.then kk.drew).heap HLa.out.1 (by simp)) (by first | exact (HK.out.then kk).heap HLa.out.2 (by simp) | exact (HK.out.then kk.drew).heap HLa.out.2 (by simp))).mono ?_; rintro e w13 ⟨rfl, rfl⟩))
    all_goals
      have HF := Lib.hid ((H9.out.then HK.out).then kk)
      clear kk k11 k12 hF2
      go_wp2_with fail
      go_ret
      exact ⟨rfl, HF.out⟩
end Go.Proofs.YtnelakpdmjfolaaGreat
namespace Go.Proofs.YtnelakpdmjfolaaGreat
open Go.RowKit Go.Lib

/-- block SB is a row of flags. -/
def SeenAt (w : World) (SB : Nat) (sn : List Bool) : Prop := w.heap[SB]? = some (.cells (sn.map Value.bool).toArray 4 (0, 0))
theorem SeenAt.cell {w : World} {SB : Nat} {sn : List Bool} (h : SeenAt w SB sn) {i : Nat} {b : Bool} (hi : sn[i]? = some b) : w.cell? ⟨SB, i, none⟩ = some (.bool b) := cell_is h i (by simp [hi])
theorem SeenAt.set {w : World} {SB : Nat} {sn : List Bool} (h : SeenAt w SB sn) (i : Nat) : SeenAt (w.setCell ⟨SB, i, none⟩ (.bool true)) SB (sn.set i true) := heap_set h i _ (by simp [List.map_set])
theorem make_seen (w : World) : (Instr.makeSlice 35 (.int .i64 258) (.int .i64 258)).run Tryz.prog w = .ok (.slice (some ⟨w.heap.size, 0, none⟩) 258 258) (w.alloc (.cells ((List.replicate 258 false).map Value.bool).toArray 4)) := by kernel_rfl
theorem seen_full {sn : List Bool} {x0 : Nat} (hl : sn.length = 258) (h : ∀ u, u < 258 → sn[(x0 + u) % 258]? = some true) : sn.count true = 258 := by
  rw [← hl, List.count_eq_length]
  intro b hb
  obtain ⟨i, hi, rfl⟩ := List.getElem_of_mem hb
  have h1 := h ((i + 258 - x0 % 258) % 258) (Nat.mod_lt _ (by decide))
  have h2 : (x0 + (i + 258 - x0 % 258) % 258) % 258 = i := by omega
  rw [h2, List.getElem?_eq_getElem hi] at h1
  exact (Option.some.inj h1).symm
theorem seen_one {sn : List Bool} {x : Nat} (h : sn[x]? = some false) : (sn.set x true).count true = sn.count true + 1 := by
  obtain ⟨hx, e⟩ := List.getElem?_eq_some_iff.1 h
  rw [List.count_set hx, e]
  simp
/-- what is gathered: j puts of unlike blocks, these and no others are flagged. -/
structure Gth (w : World) (lo SB j : Nat) (v : Value) (sn : List Bool) (l : List (Int × List UInt8)) : Prop where
  seen : SeenAt w SB sn
  len : sn.length = 258
  cnt : sn.count true = j
  row : PutsAt w lo v l
  num : l.length = j
  nodup : (l.map Prod.fst).Nodup
  keys : ∀ k ∈ l.map Prod.fst, ∃ i : Nat, k = i ∧ sn[i]? = some true
theorem Gth.keep {w w' : World} {lo SB j : Nat} {v : Value} {sn : List Bool} {l : List (Int × List UInt8)} (h : Gth w lo SB j v sn l) (hc : Chg [] w w') : Gth w' lo SB j v sn l :=
  ⟨hc.heap h.seen (by simp), h.len, h.cnt, h.row.keep0 hc, h.num, h.nodup, h.keys⟩
theorem Gth.in_ {w : World} {lo SB j : Nat} {v : Value} {sn : List Bool} {l : List (Int × List UInt8)} (h : Gth w lo SB j v sn l) : ∀ p ∈ l, 0 ≤ p.1 ∧ p.1 < 258 := fun p hp => by
  obtain ⟨i, e, hi⟩ := h.keys p.1 (List.mem_map.2 ⟨p, hp, rfl⟩)
  have := (List.getElem?_eq_some_iff.1 hi).1
  have := h.len
  rw [e]
  omega
/-- one block more is flagged; its put comes behind. -/
theorem Gth.step {w wa wb : World} {lo SB j x gd cd : Nat} {v v' : Value} {sn : List Bool} {l : List (Int × List UInt8)} {b : List UInt8} {xs : List Value} (h : Gth w lo SB j v sn l) (hx : sn[x]? = some false) (hs : SeenAt wa SB (sn.set x true))
    (hr : PutsAt wa lo v l) (hxs : ∀ i (h : i < l.length), xs[i * 2]? = some (.int .i64 l[i].1) ∧ ∃ g c, xs[i * 2 + 1]? = some (.slice (some ⟨g, 0, none⟩) 40 c) ∧ Bs wa (some ⟨g, 0, none⟩) l[i].2 ∧ l[i].2.length = 40 ∧ Bt wa g) (hxl : xs.length = l.length * 2)
    (ho : wb.ownsRow lo 41 2 v' (j + 1) (xs ++ [.int .i64 (x : Nat), .slice (some ⟨gd, 0, none⟩) 40 cd])) (kb : Chg v.ownBlock.toList wa wb) (hb : Bs wa (some ⟨gd, 0, none⟩) b) (hb4 : b.length = 40) (hbt : Bt wa gd) :
    Gth wb lo SB (j + 1) v' (sn.set x true) (l ++ [((x : Int), b)]) := by
  have hn : SB ∉ v.ownBlock.toList := fun hm => by
    obtain ⟨-, cs, hh⟩ := hr.block SB (by simpa using hm)
    rw [hs] at hh
    cases hh
  refine ⟨kb.heap hs hn, by simp [h.len], by rw [seen_one hx, h.cnt], PutsAt.push hxs hxl h.num.symm (fun g hg => (hr.block g hg).2) ho kb hb hb4 hbt, by simp [h.num], ?_, fun k hk => ?_⟩
  · rw [List.map_append, List.nodup_append]
    refine ⟨h.nodup, by simp, fun a ha c hc => ?_⟩
    obtain ⟨i, e, hi⟩ := h.keys a ha
    simp at hc
    intro e2
    have : i = x := by omega
    rw [this, hx] at hi
    cases hi
  · rw [List.map_append, List.mem_append] at hk
    have hxl := (List.getElem?_eq_some_iff.1 hx).1
    rcases hk with hk | hk
    · obtain ⟨i, e, hi⟩ := h.keys k hk
      refine ⟨i, e, ?_⟩
      rw [List.getElem?_set]
      split
      · rename_i e2
        exact absurd (e2 ▸ hx : sn[i]? = some false) (by rw [hi]; simp)
      · exact hi
    · simp at hk
      exact ⟨x, hk, by rw [List.getElem?_set_self hxl]⟩
theorem PutsAt.putsW {w : World} {lo g c : Nat} {l : List (Int × List UInt8)} (h : PutsAt w lo (.slice (some ⟨g, 0, none⟩) l.length c) l) : PutsW w g 0 l := fun i hi => by
  obtain ⟨g', cap', gd, cd, e, -, h1, h2, h3, h4, -⟩ := h.get i hi
  cases e
  exact ⟨by rw [Nat.zero_add]; exact h1, gd, 0, cd, by rw [Nat.zero_add]; exact h2, h3, h4⟩
set_option maxRecDepth 100000 in
theorem sblocks_sto (w : World) {lw : Nat} {d : Ids} {s : Gs} {g : Gd} (h : Sto w lw d s g) : Calls Tryz.prog 10 #[.pointer (some ⟨d.P, 0, none⟩)] w fun e w' => e = .returned (.int .i64 258) ∧ Chg [] w w' := by
  have c0 : w.cell? ⟨d.P, 0, none⟩ = some (.pointer (some ⟨d.N, 0, none⟩)) := cell_is h.store 0 rfl
  have HG := Lib.hid (geom_hdr w ⟨_, h.dev.hdr⟩)
  clear h
  go_enter Tryz.func10, Tryz.ntmps10
  go_wp2_with fail
  refine HG.out.mono ?_
  rintro e w1 ⟨rfl, hc1⟩
  go_wp2_with fail
  refine (cap_min w1).mono ?_
  rintro e w2 ⟨rfl, hc2⟩
  go_wp2_with fail
  go_ret
  exact ⟨rfl, hc1.then hc2⟩
theorem data_ij (w : World) (i j : Nat) (h : i + j ≤ 1000) : Calls Tryz.prog 11 #[.int .i64 ((i : Int) + (j : Int))] w fun e w' => ∃ g, e = .returned (.slice (some ⟨g, 0, none⟩) 40 40) ∧ Chg [] w w' ∧ w.heap.size ≤ g ∧ Fo w' g (datB (i + j)) := by
  have := data_ex w (i + j) h
  rw [Int.natCast_add] at this
  exact this
set_option maxRecDepth 100000 in
theorem steps_least (w : World) : Calls Tryz.prog 15 #[.agg #[.int .i64 8, .int .i64 96]] w fun e w' => e = .returned (.int .i64 16) ∧ Chg [] w w' := by
  have k0 : Chg [] w (w.alloc (.cells #[.int .i64 8, .int .i64 96] 24)) := Chg.alloc w _
  have h0 := heap_new w (.cells #[.int .i64 8, .int .i64 96] 24)
  have c0 := cell_is h0 0 rfl
  have c1 := cell_is h0 1 rfl
  go_enter Tryz.func15, Tryz.ntmps15
  go_wp2_with fail
  generalize w.alloc (.cells #[.int .i64 8, .int .i64 96] 24) = w1 at *
  refine (rmay_min w1).mono ?_
  rintro e w2 ⟨rfl, k2⟩
  have d0 := k2.cell c0 (by simp)
  have d1 := k2.cell c1 (by simp)
  clear c0 c1
  go_wp2_with fail
  go_ret
  exact ⟨rfl, k0.then k2⟩
end Go.Proofs.YtnelakpdmjfolaaGreat
namespace Go.Proofs.YtnelakpdmjfolaaGreat
open Go.RowKit Go.Lib

set_option maxRecDepth 100000 in
theorem far_out (w : World) {W rw K D o : Nat} {L : List (Int × Value)} {c : Nat} (h : BufAt w W rw L) (hK : w.cell? ⟨K, 0, none⟩ = some (.pointer (some ⟨W, 0, none⟩))) :
    Calls Tryz.prog 121 #[.agg #[.int .i64 258, .slice (some ⟨D, o, none⟩) 40 c], .pointer (some ⟨K, 0, none⟩)] w fun e w' => e = .returned (.bool true) ∧ Chg [] w w' := by
  have g := heap_new w (.cells #[.int .i64 258, .slice (some ⟨D, o, none⟩) 40 c] 41)
  have kc : Chg [] w (w.alloc (.cells #[.int .i64 258, .slice (some ⟨D, o, none⟩) 40 c] 41)) := Chg.alloc w _
  have a0 : (w.alloc (.cells #[.int .i64 258, .slice (some ⟨D, o, none⟩) 40 c] 41)).cell? ⟨w.heap.size, 0, none⟩ = some (.int .i64 258) := cell_is g 0 rfl
  have a1 : (w.alloc (.cells #[.int .i64 258, .slice (some ⟨D, o, none⟩) 40 c] 41)).cell? ⟨K, 0, none⟩ = some (.pointer (some ⟨W, 0, none⟩)) := kc.cell hK (by simp)
  have a2 : (w.alloc (.cells #[.int .i64 258, .slice (some ⟨D, o, none⟩) 40 c] 41)).cell? ⟨W, 0, none⟩ = some (.int .i64 258) := cell_is (kc.heap h.1 (by simp)) 0 rfl
  clear h hK g
  go_enter Tryz.func121, Tryz.ntmps121
  go_wp2_with fail
  generalize w.alloc (.cells #[.int .i64 258, .slice (some ⟨D, o, none⟩) 40 c] 41) = w1 at *
  generalize w.heap.size = z at *
  go_region_held3 (fun wx => wx.cell? ⟨z, 0, none⟩ = some (.int .i64 258) ∧ wx.cell? ⟨K, 0, none⟩ = some (.pointer (some ⟨W, 0, none⟩)) ∧ wx.cell? ⟨W, 0, none⟩ = some (.int .i64 258)) (first | (exact ⟨a0, a1, a2⟩)) (fail)
  go_wp2_with fail
  go_ret
  exact ⟨by simp, kc.drew⟩
set_option maxRecDepth 100000 in
set_option maxHeartbeats 1000000 in
theorem idx_out (w : World) {E cp K W rw D c : Nat} {L : List (Int × Value)} (h : BufAt w W rw L) (hK : w.cell? ⟨K, 0, none⟩ = some (.pointer (some ⟨W, 0, none⟩))) (e0 : w.cell? ⟨E, 0, none⟩ = some (.int .i64 258)) (e1 : w.cell? ⟨E, 1, none⟩ = some (.slice (some ⟨D, 0, none⟩) 40 c)) :
    Calls Tryz.prog 137 #[.slice (some ⟨E, 0, none⟩) 1 cp, .func (.func 121) #[] #[.pointer (some ⟨K, 0, none⟩)]] w fun e w' => e = .returned (.int .i64 0) ∧ Chg [] w w' := by
  have HG := Lib.hid (far_out (c := c) (D := D) (o := 0) w h hK)
  clear h hK
  go_enter Tryz.func137, Tryz.ntmps137
  go_wp2_with fail
  go_loopw [8, 5] (fun i _ wr => i = .int .i64 0 ∧ wr = w) (fun _ _ _ => 0)
  case atStart => exact ⟨rfl, rfl⟩
  case round =>
    obtain ⟨rfl, rfl⟩ := hrel
    go_wp2_with fail
    refine HG.out.mono ?_
    rintro e w2 ⟨rfl, hc2⟩
    have HC2 := Lib.hid hc2
    clear hc2 HG
    go_wp2_with fail
    go_ret
    exact ⟨rfl, HC2.out⟩
set_option maxRecDepth 100000 in
theorem cont_out (w : World) {E cp K W rw D c : Nat} {L : List (Int × Value)} (h : BufAt w W rw L) (hK : w.cell? ⟨K, 0, none⟩ = some (.pointer (some ⟨W, 0, none⟩))) (e0 : w.cell? ⟨E, 0, none⟩ = some (.int .i64 258)) (e1 : w.cell? ⟨E, 1, none⟩ = some (.slice (some ⟨D, 0, none⟩) 40 c)) :
    Calls Tryz.prog 113 #[.slice (some ⟨E, 0, none⟩) 1 cp, .func (.func 121) #[] #[.pointer (some ⟨K, 0, none⟩)]] w fun e w' => e = .returned (.bool true) ∧ Chg [] w w' := by
  have HI := Lib.hid (idx_out (cp := cp) w h hK e0 e1)
  clear h hK e0 e1
  go_enter Tryz.func113, Tryz.ntmps113
  go_wp2_with fail
  refine HI.out.mono ?_
  rintro e w2 ⟨rfl, hc⟩
  have HC := Lib.hid hc
  clear hc HI
  go_wp2_with fail
  go_ret
  exact ⟨rfl, HC.out⟩
set_option maxRecDepth 100000 in
theorem wwrite_out (w : World) {W rw E cp D c : Nat} {L : List (Int × Value)} (h : BufAt w W rw L) (e0 : w.cell? ⟨E, 0, none⟩ = some (.int .i64 258)) (e1 : w.cell? ⟨E, 1, none⟩ = some (.slice (some ⟨D, 0, none⟩) 40 c)) :
    Calls Tryz.prog 83 #[.pointer (some ⟨W, 0, none⟩), .slice (some ⟨E, 0, none⟩) 1 cp] w fun e w' => e = .returned (.int .i64 2) ∧ Chg [] w w' := by
  have k1 : Chg [] w (w.alloc (.cells #[.pointer (some ⟨W, 0, none⟩)] 142)) := Chg.alloc w _
  have HI := Lib.hid (cont_out (cp := cp) (c := c) (D := D) (K := w.heap.size) (w.alloc (.cells #[.pointer (some ⟨W, 0, none⟩)] 142)) (h.keep k1 (by simp) (by simp)) (cell_is (heap_new w _) 0 rfl) (k1.cell e0 (by simp)) (k1.cell e1 (by simp)))
  clear h e0 e1
  go_enter Tryz.func83, Tryz.ntmps83
  go_wp2_with fail
  refine HI.out.mono ?_
  rintro e w2 ⟨rfl, hc⟩
  have HC := Lib.hid (k1.then hc)
  clear hc HI k1
  go_wp2_with fail
  go_ret
  exact ⟨rfl, HC.out⟩
variable {base : Nat} {d : Ids} {p : Par} {F : World → Prop}
set_option maxRecDepth 100000 in
theorem twrite_out (w : World) {q : Int → List UInt8} {L : List (Int × Value)} {n E cp D c : Nat} (hf : Fr base d p F) (h : Su w base d p F q L n) (e0 : w.cell? ⟨E, 0, none⟩ = some (.int .i64 258)) (e1 : w.cell? ⟨E, 1, none⟩ = some (.slice (some ⟨D, 0, none⟩) 40 c)) :
    Calls Tryz.prog 39 #[.pointer (some ⟨d.M, 0, none⟩), .int .i64 p.h, .slice (some ⟨E, 0, none⟩) 1 cp] w fun e w' => e = .returned (.int .i64 2) ∧ Chg [] w w' := by
  have t4 : w.cell? ⟨d.T, 4, none⟩ = some (.pointer (some ⟨d.W, 0, none⟩)) := cell_is h.tx 4 rfl
  have HO := Lib.hid (topen_gen w (hf.need _ h.env) h.tx)
  have HW := Lib.hid (wwrite_out w (cp := cp) h.buf e0 e1)
  clear h e0 e1
  go_enter Tryz.func39, Tryz.ntmps39
  go_wp2_with fail
  refine HO.out.mono ?_
  rintro e w1 ⟨rfl, rfl⟩
  go_wp2_with fail
  refine HW.out.mono ?_
  rintro e w1 ⟨rfl, k⟩
  have HX := Lib.hid k
  clear k
  go_wp2_with fail
  go_ret
  exact ⟨rfl, HX.out⟩
set_option maxRecDepth 100000 in
theorem swrite_out (w : World) {q : Int → List UInt8} {L : List (Int × Value)} {n E cp D c : Nat} (hf : Fr base d p F) (h : Su w base d p F q L n) (e0 : w.cell? ⟨E, 0, none⟩ = some (.int .i64 258)) (e1 : w.cell? ⟨E, 1, none⟩ = some (.slice (some ⟨D, 0, none⟩) 40 c)) :
    Calls Tryz.prog 12 #[.pointer (some ⟨d.P, 0, none⟩), .int .i64 p.h, .slice (some ⟨E, 0, none⟩) 1 cp] w fun e w' => e = .returned (.int .i64 2) ∧ Chg [] w w' := by
  have c5 := (hf.need _ h.env).p5
  have HO := Lib.hid (dead_gen w (hf.need _ h.env))
  have HW := Lib.hid (twrite_out w (cp := cp) hf h e0 e1)
  clear h e0 e1 hf
  go_enter Tryz.func12, Tryz.ntmps12
  go_wp2_with fail
  refine HO.out.mono ?_
  rintro e w1 ⟨rfl, rfl⟩
  go_wp2_with fail
  refine HW.out.mono ?_
  rintro e w1 ⟨rfl, k⟩
  have HX := Lib.hid k
  clear k
  go_wp2_with fail
  go_ret
  exact ⟨rfl, HX.out⟩
end Go.Proofs.YtnelakpdmjfolaaGreat
namespace Go.Proofs.YtnelakpdmjfolaaGreat
open Go.RowKit Go.Lib

/-- three zones from a on hold these blocks, one behind the other. -/
def Zn (zs : Nat → List (List UInt8)) (a : Nat) (F : List (List UInt8)) : Prop := ∀ q, q < 3 → zs (a + q) = (F.drop (96 * q)).take 96
theorem Zn.at_ {zs : Nat → List (List UInt8)} {a q j : Nat} {F : List (List UInt8)} (h : Zn zs a F) (hq : q < 3) (hj : j < (zs (a + q)).length) : ∃ hj' : 96 * q + j < F.length, (zs (a + q))[j] = F[96 * q + j] := by
  have e := h q hq
  have h1 : 96 * q + j < F.length := by
    rw [e] at hj
    simp only [List.length_take, List.length_drop] at hj
    omega
  refine ⟨h1, ?_⟩
  have h2 : (zs (a + q))[j]? = F[96 * q + j]? := by
    rw [e, List.getElem?_take, if_pos (by rw [e] at hj; simp only [List.length_take] at hj; omega), List.getElem?_drop]
  rw [List.getElem?_eq_getElem hj, List.getElem?_eq_getElem h1] at h2
  exact Option.some.inj h2
theorem Zn.len {zs : Nat → List (List UInt8)} {a q : Nat} {F : List (List UInt8)} (h : Zn zs a F) (hq : q < 3) : (zs (a + q)).length = min 96 (F.length - 96 * q) := by
  rw [h q hq, List.length_take, List.length_drop]
/-- what slot.blocks hands back. -/
def BlkR (w : World) (base N A c : Nat) (ops rds : Int) (Z : List Nat) (vs : Nat → Value) (gs : Nat → Nat) (zs : Nat → List (List UInt8)) (F : List (List UInt8)) (e : Ending) (w' : World) : Prop :=
  ∃ v, e = .returned v ∧ Chg [N] w w' ∧ DevK w' base N A c ops (rds + F.length) Z vs gs zs ∧ RowsC w' w.heap.size v F ∧ (F = [] → v = .slice none 0 0)
set_option maxRecDepth 100000 in
set_option maxHeartbeats 8000000 in
theorem kblocks (w : World) {base S N A c cnt : Nat} {inn : Int} {tv : Value} {ops rds : Int} {Z : List Nat} {vs : Nat → Value} {gs : Nat → Nat} {zs : Nat → List (List UInt8)} {F : List (List UInt8)} {i a : Nat} (h : SlotG w S N inn tv cnt) (hD : DevK w base N A c ops rds Z vs gs zs) (hi : (i = 0 ∧ a = 0) ∨ (i = 1 ∧ a = 3)) (hz : Zn zs a F) (hF : F.length < 288) (ho0 : 0 ≤ rds) (ho1 : rds ≤ 1000000) (h64 : ∀ p ∈ F, p.length = 64) :
    Calls Tryz.prog 61 #[.pointer (some ⟨S, 0, none⟩), .int .i64 i] w (BlkR w base N A c ops rds Z vs gs zs F) := by
  have hl := hD.len
  have HD := Lib.hid hD
  have HS := Lib.hid h
  have hSN : S ∉ [N] := by rw [List.mem_singleton]; exact heap_ne h hD.hdr (by simp)
  have HSN := Lib.hid hSN
  have hHdr : w.heap[N]? = some (hdrK A c ops rds) := hD.hdr
  have cA : w.cell? ⟨S, 1 + i, none⟩ = some (.int .i64 a) := by
    rcases hi with ⟨rfl, rfl⟩ | ⟨rfl, rfl⟩
    · exact cell_is h 1 rfl
    · exact cell_is h 2 rfl
  obtain ⟨e3, he3⟩ : ∃ e3, e3 = a + 3 := ⟨_, rfl⟩
  have HE3 := Lib.hid he3
  have HI := Lib.hid hi
  have HZ := Lib.hid (And.intro hz (And.intro hF h64))
  have hi2 : (i : Int) < 3 := by omega
  have hi1 : i ≤ 1 := by omega
  have he3a : a ≤ e3 ∧ e3 ≤ 6 := by omega
  have n1 : IntKind.i64.wrap ((i : Int) + 1) = ((i + 1 : Nat) : Int) := by rw [IntKind.wrap_i64]; omega
  clear h hD hSN hz h64 hi he3
  go_enter Tryz.func61, Tryz.ntmps61
  go_wp2_with fail
  go_loopw [4, 5, 6, 7, 8, 9, 10] (fun v z _ _ _ _ _ wr => ∃ q zz : Nat, zz = a + q ∧ q < 3 ∧ 96 * q ≤ F.length ∧ z = .int .i64 zz ∧ Chg [N] w wr ∧ wr.heap[N]? = some (hdrK A c ops (rds + (96 * q : Nat))) ∧ RowsC wr w.heap.size v (F.take (96 * q)) ∧ (F = [] → v = .slice none 0 0)) (fun _ z _ _ _ _ _ _ => 7 - (intOf z).toNat)
  case atStart => exact ⟨0, a, rfl, by decide, Nat.zero_le _, rfl, Chg.refl _ _, by simpa using hHdr, by simpa using RowsC.nil _ _, fun _ => rfl⟩
  case round =>
    obtain ⟨q, zz, hzz, hq3, hqF, rfl, kr, hr, hrw, hnl⟩ := hrel
    have HNl := Lib.hid hnl
    clear hnl
    have hSr : SlotG wr S N inn tv cnt := kr.heap HS.out HSN.out
    have d0 : wr.cell? ⟨S, 0, none⟩ = some (.pointer (some ⟨N, 0, none⟩)) := cell_is hSr 0 rfl
    have d4 : wr.cell? ⟨S, 4, none⟩ = some (.int .i64 96) := cell_is hSr 4 rfl
    have dA : wr.cell? ⟨S, 1 + (i + 1), none⟩ = some (.int .i64 (e3 : Int)) := by
      rw [HE3.out]
      rcases HI.out with ⟨rfl, rfl⟩ | ⟨rfl, rfl⟩
      · exact cell_is hSr 2 rfl
      · exact cell_is hSr 3 rfl
    have hz8 : zz < Z.length := by have := HE3.out; omega
    have hzl := HZ.out.1.len hq3
    rw [← hzz] at hzl
    have hP := kpointer wr (HD.out.turn kr hr) zz hz8
    obtain ⟨nq, hnq⟩ : ∃ nq, nq = (zs zz).length := ⟨_, rfl⟩
    rw [← hnq] at hP hzl
    have HP := Lib.hid hP
    have Hnq := Lib.hid hnq
    have HX := Lib.hid (And.intro hr hrw)
    have Hzz := Lib.hid (And.intro hzz (And.intro hq3 (And.intro hqF hzl)))
    have hn96 : nq ≤ 96 := by omega
    have hlt : (zz : Int) < (e3 : Int) := by have := HE3.out; omega
    have hze : zz ≤ 5 := by have := HE3.out; omega
    clear hr hrw hP hnq cA hSr hHdr hzz hzl
    go_wp2_with fail
    refine HP.out.mono ?_
    rintro e w2 ⟨rfl, rfl⟩
    clear dA
    go_wp2_with fail
    go_loopw [4, 8, 9, 10, 38] (fun v _ _ _ k wx => ∃ j : Nat, j ≤ nq ∧ k = .int .i64 j ∧ Chg [N] w wx ∧ wx.heap[N]? = some (hdrK A c ops (rds + (96 * q + j : Nat))) ∧ RowsC wx w.heap.size v (F.take (96 * q + j)) ∧ (F = [] → v = .slice none 0 0)) (fun _ _ _ _ k _ => nq - (intOf k).toNat)
    case atStart => exact ⟨0, Nat.zero_le _, rfl, kr, HX.out.1, HX.out.2, HNl.out⟩
    case round =>
      obtain ⟨j, hj, rfl, kx, hx, hrx, hnl⟩ := hrel
      have HNl := Lib.hid hnl
      clear hnl
      rename World => wx
      clear HX d0 d4
      have hSx : SlotG wx S N inn tv cnt := kx.heap HS.out HSN.out
      have q0 : wx.cell? ⟨S, 0, none⟩ = some (.pointer (some ⟨N, 0, none⟩)) := cell_is hSx 0 rfl
      have q4 : wx.cell? ⟨S, 4, none⟩ = some (.int .i64 96) := cell_is hSx 4 rfl
      clear hSx
      by_cases hlt2 : j < nq
      · have m1 : decide ((j : Int) < (nq : Int)) = true := decide_eq_true (by omega)
        have hjz : j < (zs zz).length := by rw [← Hnq.out]; exact hlt2
        have hqF2 := Hzz.out.2.2.1
        have HRd := Lib.hid (kread wx (HD.out.turn kx hx) (by omega) (by omega) zz hz8 j hjz)
        have hfj : ∃ hj' : 96 * q + j < F.length, (zs zz)[j] = F[96 * q + j] := by
          have := Hzz.out.1
          subst this
          exact HZ.out.1.at_ Hzz.out.2.1 hjz
        have HX := Lib.hid (And.intro kx (And.intro hx hrx))
        have HFj := Lib.hid hfj
        clear kx hx hrx hfj
        go_wp2_with fail
        refine HRd.out.mono ?_
        rintro e w2 ⟨g, c', rfl, k2, d2, b2, l2, t2, c64⟩
        obtain ⟨kx, hx, hrx⟩ := HX.out
        obtain ⟨hj', hfe⟩ := HFj.out
        rw [hfe] at b2
        have hr2 := hrx.keep k2 (Av.row hx (by simp)) (fun g' hg' hm => by
          rw [List.mem_singleton] at hm
          subst hm
          obtain ⟨xs, ho, -⟩ := hrx
          obtain ⟨-, cur, hh⟩ := own_elem ho hg'
          rw [show wx.heap[_]? = _ from hx] at hh
          cases hh)
        obtain ⟨xs, ho, hxs⟩ := hr2
        have hjl : (F.take (96 * q + j)).length = 96 * q + j := by simp; omega
        rw [hjl] at ho
        obtain ⟨pa, cv, rfl, -⟩ := own_form ho
        have ka : Chg [] w2 (w2.alloc (.cells #[.slice (some ⟨g, 0, none⟩) 64 c'] 38)) := Chg.alloc w2 _
        have ya := heap_new w2 (.cells #[.slice (some ⟨g, 0, none⟩) 64 c'] 38)
        have oa := own_keep ho ka.below0
        have hk2 := k2.size
        have hkx := kx.size
        have hba : w.heap.size ≤ (w2.alloc (.cells #[.slice (some ⟨g, 0, none⟩) 64 c'] 38)).heap.size := by have := ka.size; omega
        have hdx : w2.heap[N]? = some (hdrK A c ops (rds + (96 * q + (j + 1) : Nat))) := by
          have := d2.hdr
          rwa [show rds + ((96 * q + j : Nat) : Int) + 1 = rds + ((96 * q + (j + 1) : Nat) : Int) from by push_cast; omega] at this
        have H2 := Lib.hid (And.intro (kx.then k2) (And.intro hdx (And.intro b2 (And.intro l2 (And.intro t2 (And.intro c64 (And.intro hxs ho)))))))
        have hn1 : 96 * q + j ≤ 1000000 := by omega
        clear kx hx hrx k2 d2 b2 l2 t2 c64 hxs ho hdx q0 q4 HX HRd hfe
        go_wp2_with (first | (at_builtin; refine wpList_append_bk rfl (.tmp 51) (.tmp 53) rfl w.heap.size (.slice pa (96 * q + j) cv) (96 * q + j) xs rfl oa w2.heap.size 1 _ rfl (cell_is ya 0 rfl) rfl hn1 hba ?_; intro g5 c5 w5 o5 k5 i5))
        obtain ⟨k2, hdx, b2, l2, t2, c64, hxs, ho⟩ := H2.out
        have hfin : Chg [N] w w5 ∧ w5.heap[N]? = some (hdrK A c ops (rds + (96 * q + (j + 1) : Nat))) ∧ RowsC w5 w.heap.size (.slice (some ⟨g5, 0, none⟩) (96 * q + j + 1) c5) (F.take (96 * q + (j + 1))) := by
          refine ⟨(k2.then (ka.mono (fun x hx _ => by cases hx))).trans k5 (fun x hx hl => ?_), k5.heap (ka.heap hdx (by simp)) (own_block_ne oa (ka.heap hdx (by simp)) (by decide)), ?_⟩
          · obtain ⟨hge, -⟩ := own_elem oa (show (Value.slice pa (96 * q + j) cv).ownBlock = some x by simpa using hx)
            omega
          · rw [show 96 * q + (j + 1) = 96 * q + j + 1 by omega, List.take_succ_eq_append_getElem hj']
            have hp := RowsC.push (w := w2.alloc (.cells #[.slice (some ⟨g, 0, none⟩) 64 c'] 38)) (w' := w5) (base := w.heap.size) (g := g5) (gb := g) (cb := c') (cap := c5) (v := .slice pa (96 * q + j) cv) (l := F.take (96 * q + j)) (b := F[96 * q + j]) (xs := xs)
              (fun i hi => by obtain ⟨g', c'', e1, e2, e3, e4, e5⟩ := hxs i hi; exact ⟨g', c'', e1, e2, e3.chg ka, e4, e5.keep ka (by simp)⟩)
              (by rw [hjl]; have := ho.1; omega) (fun g' hg' => (own_elem oa hg').2) (by rw [hjl]; exact o5) k5 (b2.chg ka) (HZ.out.2.2 _ (List.getElem_mem _)) (t2.keep ka (by simp)) c64
            rw [hjl] at hp
            exact hp
        have HF := Lib.hid hfin
        clear hfin k2 hdx b2 l2 t2 c64 hxs ho ka ya oa o5 k5 i5
        go_wp2_with fail
        go_roundw
        case rel => exact ⟨j + 1, hlt2, by go_num, HF.out.1, HF.out.2.1, HF.out.2.2, fun e => by have := HFj.out.1; rw [e] at this; simp at this⟩
        case measure => simp [intOf]; omega
      · obtain rfl : j = nq := by omega
        have m1 : decide ((j : Int) < (j : Int)) = false := decide_eq_false (by omega)
        have HX := Lib.hid (And.intro kx (And.intro hx hrx))
        clear kx hx hrx
        by_cases hfull : j < 96
        · have m2 : decide ((j : Int) < 96) = true := decide_eq_true (by omega)
          go_wp2_with fail
          go_ret
          obtain ⟨kx, hx, hrx⟩ := HX.out
          have hall : 96 * q + j = F.length := by have := Hzz.out.2.2; omega
          rw [hall] at hx hrx
          rw [List.take_length] at hrx
          exact ⟨_, rfl, kx, HD.out.turn kx hx, hrx, HNl.out⟩
        · have m2 : decide ((j : Int) < 96) = false := decide_eq_false (by omega)
          have hq4 : q + 1 < 3 := by have := Hzz.out.2; have := HZ.out.2.1; omega
          go_wp2_with fail
          go_roundw
          case rel =>
            obtain ⟨kx, hx, hrx⟩ := HX.out
            have h96 : 96 * q + j = 96 * (q + 1) := by omega
            rw [h96] at hx hrx
            exact ⟨q + 1, zz + 1, by have := Hzz.out.1; omega, hq4, by have := Hzz.out.2.2; omega, by go_num, kx, hx, hrx, HNl.out⟩
          case measure => simp [intOf]; omega
end Go.Proofs.YtnelakpdmjfolaaGreat
namespace Go.Proofs.YtnelakpdmjfolaaGreat
open Go.RowKit Go.Lib

theorem frmL_mid {l : List UInt8} {j : Nat} (h : j < nCh l.length) : (frmL l)[j + 1]? = some (1, 0, chB l j) := by
  unfold frmL
  rw [List.getElem?_append_left (by rw [frmA_length]; omega)]
  simp [frmA, h]
theorem frmL_last (l : List UInt8) : (frmL l)[nCh l.length + 1]? = some (2, nCh l.length, tailB l) := by
  unfold frmL
  rw [List.getElem?_append_right (by rw [frmA_length]; exact Nat.le_refl _), frmA_length]
  simp
theorem encS_at {n k : Nat} {l : List UInt8} {f : Frm} (h : (frmL l)[k]? = some f) : ∃ hk : k < (encS n l).length, (encS n l)[k] = encF f.1 0 n f.2.1 f.2.2 := by
  obtain ⟨hk, e⟩ := List.getElem?_eq_some_iff.1 h
  refine ⟨by rw [encS_length]; rw [frmL_length] at hk; exact hk, ?_⟩
  simp [encS, e]
theorem take_chB {l : List UInt8} {j : Nat} : l.take (40 * j) ++ chB l j = l.take (40 * (j + 1)) := by
  unfold chB
  rw [show 40 * (j + 1) = 40 * j + 40 by omega, List.take_add]
/-- what slot.read hands back of a slot. -/
def RdS (w : World) (l : List UInt8) (m n : Nat) (e : Ending) (w' : World) : Prop :=
  ∃ g c, e = .returned (.tuple #[.slice (some ⟨g, 0, none⟩) m c, .int .i64 n]) ∧ Chg [] w w' ∧ Bs w' (some ⟨g, 0, none⟩) l ∧ Bt w' g ∧ w.heap.size ≤ g ∧ m ≤ c
set_option maxRecDepth 100000 in
set_option maxHeartbeats 8000000 in
theorem sread_ok (w : World) {base n m : Nat} {v : Value} {l : List UInt8} (hR : RowsC w base v (encS n l)) (hl : l.length = m) (hm0 : 0 < m) (hm : m ≤ 11440) (hn : n ≤ 1099511627776) : Calls Tryz.prog 63 #[v] w (RdS w l m n) := by
  obtain ⟨xs, ho, hxs⟩ := hR
  obtain ⟨pv, cv, rfl, hcv⟩ := own_form ho
  obtain ⟨C, hC⟩ : ∃ C, C = nCh m := ⟨_, rfl⟩
  have hlen : (encS n l).length = C + 2 := by rw [encS_length, hl, hC]
  rw [hlen] at ho hcv ⊢
  have hCm : C ≤ 286 := by rw [hC]; unfold nCh; omega
  have HC := Lib.hid (And.intro hC (And.intro hl hlen))
  obtain ⟨g0, rfl, hcells⟩ : ∃ g0, pv = some ⟨g0, 0, none⟩ ∧ ∀ j u, xs[j]? = some u → j < C + 2 → w.cell? ⟨g0, j, none⟩ = some u := by
    rcases ho.2 with ⟨_, h0⟩ | ⟨g, cap, cur, e, hA, hg, hc1, hc2, hc3, ht⟩
    · omega
    · injection e with e1
      refine ⟨g, e1, fun j u hu hj => cell_is hg j ?_⟩
      rw [← ht, List.getElem?_take_of_lt (by omega), Array.getElem?_toList] at hu
      exact hu
  have HX := Lib.hid (And.intro hcells hxs)
  have HO := Lib.hid ho
  have hcvi : ((C + 2 : Nat) : Int) ≤ cv := by omega
  clear ho hxs hcells hC hl hlen
  go_enter Tryz.func63, Tryz.ntmps63
  go_wp2_with fail
  go_step3
  go_wp2_with fail
  go_step3
  go_wp2_with fail
  go_loopw [2, 3, 4, 5, 6, 7, 10, 20, 23, 33, 42, 50] (fun v2 v3 _ _ _ _ iv _ _ _ _ _ wr => ∃ k p : Nat, k ≤ C + 1 ∧ iv = .int .i64 k ∧ (k = 0 ∧ v3 = .int .i64 0 ∨ 1 ≤ k ∧ v3 = .int .i64 n) ∧ p = min (40 * (k - 1)) m ∧ Chg [] w wr ∧ wr.ownsRow w.heap.size 5 1 v2 p (Lib.byteCells (l.take p))) (fun _ _ _ _ _ _ iv _ _ _ _ _ _ => C + 2 - (intOf iv).toNat)
  case atStart => exact ⟨0, 0, by omega, rfl, Or.inl ⟨rfl, rfl⟩, by simp, Chg.refl _ _, by simpa [Lib.byteCells] using World.ownsRow_nil _ _ _ _⟩
  case round =>
    obtain ⟨k, p, hk, rfl, hv3, hp, kr, ho⟩ := hrel
    rename World => wr
    have hkF : k < (encS n l).length := by rw [HC.out.2.2]; omega
    obtain ⟨gd, cd, e1, h64, hb, -, hbt⟩ := HX.out.2 k hkF
    have hcell := kr.cell (HX.out.1 k _ e1 (by omega)) (by simp)
    have hbr := hb.chg kr
    obtain ⟨pa, ct, rfl, hct⟩ := own_form ho
    have HP := Lib.hid (And.intro hp kr)
    have HOr := Lib.hid ho
    have hki : (k : Int) < ((C + 2 : Nat) : Int) := by omega
    have hkc : (k : Int) < cv := by omega
    clear hp kr ho hbt hb e1
    rcases hv3 with ⟨rfl, rfl⟩ | ⟨hk1, rfl⟩
    · have hD : (encS n l)[0]'(by rw [HC.out.2.2]; omega) = encF 3 0 n 0 [] := (encS_at (f := (3, 0, [])) rfl).2
      rw [hD] at hbr
      have HD := Lib.hid (fdecode_ok wr (n := 0) hbr (by decide) (by decide) (by decide) hn (by decide) rfl (Nat.le_refl _) (by decide) h64)
      clear hbr hD
      go_wp2_with fail
      refine HD.out.mono ?_
      rintro e w2 ⟨g2, c2, rfl, k2, -, -, -, -⟩
      have yB := heap_new w2 (.cells #[.int .i64 3, .int .i64 0, .int .i64 n, .int .i64 0, .slice (some ⟨g2, 0, none⟩) 0 c2] 176)
      have b0 := cell_is yB 0 (v := .int .i64 3) rfl
      have b2 := cell_is yB 2 (v := .int .i64 n) rfl
      have kB : Chg [] wr (w2.alloc (.cells #[.int .i64 3, .int .i64 0, .int .i64 n, .int .i64 0, .slice (some ⟨g2, 0, none⟩) 0 c2] 176)) := k2.then_alloc _
      have HK := Lib.hid kB
      clear yB kB k2
      go_wp2_with fail
      generalize w2.alloc (.cells #[.int .i64 3, .int .i64 0, .int .i64 n, .int .i64 0, .slice (some ⟨g2, 0, none⟩) 0 c2] 176) = w3 at *
      go_roundw
      case rel => exact ⟨1, p, by omega, by go_num, Or.inr ⟨Nat.le_refl _, rfl⟩, by have := HP.out.1; omega, HP.out.2.then HK.out, own_keep HOr.out HK.out.below0⟩
      case measure => simp [intOf]
    · obtain ⟨j, rfl⟩ : ∃ j, k = j + 1 := ⟨k - 1, by omega⟩
      by_cases hjC : j < C
      · have hmid := frmL_mid (l := l) (j := j) (by rw [HC.out.2.1, ← HC.out.1]; exact hjC)
        have hD := (encS_at (n := n) hmid).2
        rw [hD] at hbr
        have hjm : 40 * j < m := by
          have hC := HC.out.1
          unfold nCh at hC
          omega
        have hp40 : p = 40 * j := by
          have := HP.out.1
          have hC := HC.out.1
          unfold nCh at hC
          omega
        obtain ⟨q, hq⟩ : ∃ q, q = (chB l j).length := ⟨_, rfl⟩
        have hq2 : q = min 40 (m - 40 * j) := by rw [hq, chB_length, HC.out.2.1]
        have HD := Lib.hid (fdecode_ok wr (n := q) hbr (by show 1 ≤ 1; decide) (by show 1 ≤ 4; decide) (by decide) hn (by show 0 ≤ 1048576; decide) hq.symm (Nat.zero_le _) (by omega) h64)
        have Hq := Lib.hid (And.intro hq (And.intro hq2 hp40))
        have Hjm := Lib.hid hjm
        clear hbr hD hmid hq hq2 hp40 hjm
        go_wp2_with fail
        refine HD.out.mono ?_
        rintro e w2 ⟨g2, c2, rfl, k2, bs2, bt2, lg2, hqc⟩
        have yB := heap_new w2 (.cells #[.int .i64 1, .int .i64 0, .int .i64 n, .int .i64 0, .slice (some ⟨g2, 0, none⟩) q c2] 176)
        have b0 := cell_is yB 0 (v := .int .i64 1) rfl
        have b2 := cell_is yB 2 (v := .int .i64 n) rfl
        have b4 := cell_is yB 4 (v := .slice (some ⟨g2, 0, none⟩) q c2) rfl
        have kB : Chg [] wr (w2.alloc (.cells #[.int .i64 1, .int .i64 0, .int .i64 n, .int .i64 0, .slice (some ⟨g2, 0, none⟩) q c2] 176)) := k2.then_alloc _
        have bsB := bs2.chg (Chg.alloc (S := []) w2 (.cells #[.int .i64 1, .int .i64 0, .int .i64 n, .int .i64 0, .slice (some ⟨g2, 0, none⟩) q c2] 176))
        have oB := own_keep HOr.out kB.below0
        have HK := Lib.hid kB
        have HBs := Lib.hid bsB
        have HOB := Lib.hid oB
        have hbz : w.heap.size ≤ (w2.alloc (.cells #[.int .i64 1, .int .i64 0, .int .i64 n, .int .i64 0, .slice (some ⟨g2, 0, none⟩) q c2] 176)).heap.size := Nat.le_trans HP.out.2.size kB.size
        have hpq : p + q ≤ 1000000000 := by have := Hq.out; omega
        have hj0 : (((j : Int) + 1) == 0) = false := by simp; omega
        clear yB kB k2 bs2 bt2 lg2 bsB oB
        go_upto_region 5 with fail
        generalize w2.alloc (.cells #[.int .i64 1, .int .i64 0, .int .i64 n, .int .i64 0, .slice (some ⟨g2, 0, none⟩) q c2] 176) = w3 at *
        go_wp2_with (first | (at_builtin; refine wpList_append_bs rfl (.tmp 46) (.tmp 48) 38 5 rfl ty23 inf5c w.heap.size (.slice pa p ct) p (l.take p) rfl HOB.out (some ⟨g2, 0, none⟩) q c2 (chB l j) rfl Hq.out.1.symm HBs.out hpq hbz ?_; intro v' w4 hap))
        have hnew : Hid (Chg [] w w4 ∧ w4.ownsRow w.heap.size 5 1 v' (p + q) (Lib.byteCells (l.take (p + q)))) := Lib.hid (by
          obtain ⟨hq1, hq2, hp40⟩ := Hq.out
          have hO := HOB.out
          refine ⟨(HP.out.2.then HK.out).trans (Chg.own hap.2.2 (fun g hg _ => by simp [hg]) : Chg (Value.slice pa p ct).ownBlock.toList w3 w4) (fun x hx hlt => ?_), ?_⟩
          · have := (own_elem hO (show (Value.slice pa p ct).ownBlock = some x by simpa using hx)).1
            omega
          · have h1 := hap.1
            rw [hp40, take_chB] at h1
            rw [hp40]
            have h2 : l.take (40 * (j + 1)) = l.take (40 * j + q) := by
              rcases Nat.lt_or_ge (40 * (j + 1)) m with h | h
              · rw [show 40 * j + q = 40 * (j + 1) by omega]
              · rw [List.take_of_length_le (by rw [HC.out.2.1]; omega), List.take_of_length_le (by rw [HC.out.2.1]; omega)]
            rw [← h2]
            exact h1)
        clear hap
        obtain ⟨pv', cv', rfl⟩ : ∃ pv cv, v' = .slice pv (p + q) cv := by
          obtain ⟨pv, cv, e, -⟩ := own_form hnew.out.2
          exact ⟨pv, cv, e⟩
        clear b0 b2 b4
        go_wp2_with fail
        go_roundw
        case rel => exact ⟨j + 1 + 1, p + q, by omega, by go_num, Or.inr ⟨by omega, rfl⟩, by have := Hq.out; have := Hjm.out; omega, hnew.out.1, hnew.out.2⟩
        case measure => simp [intOf]; omega
      · obtain rfl : j = C := by omega
        have hlast := frmL_last l
        rw [HC.out.2.1, ← HC.out.1] at hlast
        have hD := (encS_at (n := n) hlast).2
        rw [hD] at hbr
        have hpm : p = m := by
          have := HP.out.1
          have hC := HC.out.1
          unfold nCh at hC
          omega
        subst hpm
        have HD := Lib.hid (fdecode_ok wr (n := 8) hbr (by show 1 ≤ 2; decide) (by show 2 ≤ 4; decide) (by decide) hn (by show j ≤ 1048576; omega) (tailB_length l) (by decide) (by decide) h64)
        obtain ⟨g5, rfl⟩ : ∃ g5, pa = some ⟨g5, 0, none⟩ := by
          rcases HOr.out.2 with ⟨_, h0⟩ | ⟨g, cap, cur, e, -⟩
          · omega
          · injection e with e1
            exact ⟨g, e1⟩
        have hown := HOr.out
        rw [List.take_of_length_le (by rw [HC.out.2.1]; exact Nat.le_refl _)] at hown
        have hbs5 := Bs.own hown
        have hbt5 : Bt wr g5 := (own_elem hown (g := g5) rfl).2
        have hlg5 : w.heap.size ≤ g5 := (own_elem hown (g := g5) rfl).1
        have H5 := Lib.hid (And.intro hbs5 (And.intro hbt5 hlg5))
        clear hbr hD hlast hown hbs5 hbt5 hlg5
        go_wp2_with fail
        refine HD.out.mono ?_
        rintro e w2 ⟨g2, c2, rfl, k2, bs2, bt2, lg2, hqc⟩
        have yB := heap_new w2 (.cells #[.int .i64 2, .int .i64 0, .int .i64 n, .int .i64 j, .slice (some ⟨g2, 0, none⟩) 8 c2] 176)
        have b0 := cell_is yB 0 (v := .int .i64 2) rfl
        have b2 := cell_is yB 2 (v := .int .i64 n) rfl
        have b3 := cell_is yB 3 (v := .int .i64 j) rfl
        have b4 := cell_is yB 4 (v := .slice (some ⟨g2, 0, none⟩) 8 c2) rfl
        have kB : Chg [] wr (w2.alloc (.cells #[.int .i64 2, .int .i64 0, .int .i64 n, .int .i64 j, .slice (some ⟨g2, 0, none⟩) 8 c2] 176)) := k2.then_alloc _
        have bsB := bs2.chg (Chg.alloc (S := []) w2 (.cells #[.int .i64 2, .int .i64 0, .int .i64 n, .int .i64 j, .slice (some ⟨g2, 0, none⟩) 8 c2] 176))
        have HK := Lib.hid kB
        have HBs := Lib.hid bsB
        have hj0 : (((j : Int) + 1) == 0) = false := by simp; omega
        clear yB kB k2 bs2 bt2 lg2 bsB
        go_upto_region 5 with fail
        generalize w2.alloc (.cells #[.int .i64 2, .int .i64 0, .int .i64 n, .int .i64 j, .slice (some ⟨g2, 0, none⟩) 8 c2] 176) = w3 at *
        generalize w2.heap.size = B at *
        have kd : Chg [] w3 w3.drew := (Chg.refl [] w3).drew
        have HTl := Lib.hid (tail_any w3.drew (c := ct) ((H5.out.1.chg HK.out).chg kd) HC.out.2.1 (by omega))
        have HEq := Lib.hid (fun wx (kx : Chg [] w3 wx) (ge ce : Nat) (hbe : Bs wx (some ⟨ge, 0, none⟩) (tailB l)) => eq_same wx (c := c2) (c' := ce) (HBs.out.chg kx) hbe (tailB_length l) (by decide))
        have b0d : w3.drew.cell? ⟨B, 0, none⟩ = some (.int .i64 2) := b0
        have b3d : w3.drew.cell? ⟨B, 3, none⟩ = some (.int .i64 j) := b3
        have b4d : w3.drew.cell? ⟨B, 4, none⟩ = some (.slice (some ⟨g2, 0, none⟩) 8 c2) := b4
        have hsb : IntKind.i64.wrap (j : Int) = (j : Int) := by rw [IntKind.wrap_i64]; omega
        go_upto_region 11 with fail
        go_region_held3 (fun wx => wx.cell? ⟨B, 0, none⟩ = some (.int .i64 2) ∧ wx.cell? ⟨B, 3, none⟩ = some (.int .i64 j) ∧ wx.cell? ⟨B, 4, none⟩ = some (.slice (some ⟨g2, 0, none⟩) 8 c2))
          (first
            | (exact ⟨b0, b3, b4⟩)
            | (exact ⟨b0d, b3d, b4d⟩)
            | (exact ⟨k6.cell b0d (by simp), k6.cell b3d (by simp), k6.cell b4d (by simp)⟩)
            | (exact ⟨(k6.then k7).cell b0d (by simp), (k6.then k7).cell b3d (by simp), (k6.then k7).cell b4d (by simp)⟩))
          (first
            | (go_at_call 106; refine HTl.out.mono ?_; rintro e w6 ⟨gt, ctt, rfl, k6, lgt, bst, btt⟩)
            | (go_at_call 105; refine (HEq.out w6 (kd.then k6) gt ctt bst).mono ?_; rintro e w7 ⟨rfl, k7⟩))
        all_goals
          have HF := Lib.hid (show Chg [] wr w7 from HK.out.then ((kd.then k6).then k7))
          clear k6 k7 bst btt lgt
          go_wp2_with fail
          rw [Exit.noGoto_ret]
          go_ret2
          exact ⟨g5, ct, rfl, HP.out.2.then HF.out, H5.out.1.chg HF.out, Bt.keep H5.out.2.1 HF.out (by simp), H5.out.2.2, hct⟩
end Go.Proofs.YtnelakpdmjfolaaGreat
namespace Go.Proofs.YtnelakpdmjfolaaGreat
open Go.RowKit Go.Lib

/-- each block begins as one of a slot's frames does. -/
def Ks (l : List (List UInt8)) : Prop := ∀ x ∈ l, ∃ a t, x = a :: t ∧ (1 ≤ a.toNat ∧ a.toNat ≤ 3)
set_option maxRecDepth 100000 in
theorem slclos_ok (w : World) {g o m c : Nat} {a : UInt8} {l : List UInt8} (h : Bs w (some ⟨g, o, none⟩) (a :: l)) (hm : 0 < m) (h1 : 1 ≤ a.toNat) (h3 : a.toNat ≤ 3) :
    Calls Tryz.prog 62 #[.slice (some ⟨g, o, none⟩) m c] w fun e w' => e = .returned (.bool false) ∧ w = w' := by
  have c0 : w.cell? ⟨g, o, none⟩ = some (.int .u8 a.toNat) := by
    have := h.at_ 0 (by simp)
    simpa using this
  have n1 : decide ((a.toNat : Int) < 1) = false := decide_eq_false (by omega)
  have n2 : decide ((3 : Int) < (a.toNat : Int)) = false := decide_eq_false (by omega)
  have hmi : (0 : Int) < m := by omega
  clear h
  generalize (a.toNat : Int) = x at *
  go_enter Tryz.func62, Tryz.ntmps62
  go_wp2_with fail
  go_ret
  exact ⟨rfl, rfl⟩
set_option maxRecDepth 100000 in
theorem idxf_slot (w : World) {g c m : Nat} {l : List (List UInt8)} (h : RowsX w g 0 l) (hm : l.length = m) (hmc : m ≤ c) (hm1 : m ≤ 1000) (hk : Ks l) : Calls Tryz.prog 69 #[.slice (some ⟨g, 0, none⟩) m c, .func (.func 62) #[] #[]] w fun e w' => e = .returned (.int .i64 (-1)) ∧ w = w' := by
  have HX := Lib.hid h
  have HK := Lib.hid hk
  clear h hk
  go_enter Tryz.func69, Tryz.ntmps69
  go_wp2_with fail
  go_loop [8] (fun i => ∃ j : Nat, j ≤ m ∧ i = .int .i64 j) (fun i => m - (intOf i).toNat)
  case atStart => exact ⟨0, by omega, rfl⟩
  case round =>
    obtain ⟨j, hj, rfl⟩ := hrel
    by_cases hlt : j < m
    · obtain ⟨gi, ci, d0, hci, hb, -⟩ := HX.out j (by omega)
      rw [Nat.zero_add] at d0
      obtain ⟨a, t, e, ha⟩ := HK.out _ (List.getElem_mem (show j < l.length by omega))
      rw [e] at hb
      have HS := Lib.hid (slclos_ok w (m := 64) (c := ci) hb (by decide) ha.1 ha.2)
      clear hb ha e
      go_wp2_with fail
      refine HS.out.mono ?_
      rintro r w2 ⟨rfl, rfl⟩
      go_wp2_with fail
      go_round
      case rel => exact ⟨j + 1, by omega, by go_num⟩
      case measure => simp [intOf]; omega
    · obtain rfl : j = m := by omega
      go_wp2_with fail
      go_ret
      exact ⟨rfl, rfl⟩
set_option maxRecDepth 100000 in
theorem contf_slot (w : World) {g c m : Nat} {l : List (List UInt8)} (h : RowsX w g 0 l) (hm : l.length = m) (hmc : m ≤ c) (hm1 : m ≤ 1000) (hk : Ks l) : Calls Tryz.prog 29 #[.slice (some ⟨g, 0, none⟩) m c, .func (.func 62) #[] #[]] w fun e w' => e = .returned (.bool false) ∧ w = w' := by
  have HI := Lib.hid (idxf_slot w h hm hmc hm1 hk)
  clear h hk
  go_enter Tryz.func29, Tryz.ntmps29
  go_wp2_with fail
  refine HI.out.mono ?_
  rintro e w2 ⟨rfl, rfl⟩
  go_wp2_with fail
  go_ret
  exact ⟨rfl, rfl⟩
theorem encS_ks {n : Nat} {l : List UInt8} (hl : l.length ≤ 11440) : Ks (encS n l) := fun x hx => by
  simp only [encS, List.mem_map] at hx
  obtain ⟨f, hf, rfl⟩ := hx
  obtain ⟨h1, -, -⟩ := frmL_ok hl f hf
  obtain ⟨rest, e⟩ := encF_parts f.1 0 n f.2.1 f.2.2
  refine ⟨UInt8.ofNat f.1, _, by rw [e]; rfl, ?_⟩
  have : (UInt8.ofNat f.1).toNat = f.1 := by simp; omega
  omega
theorem encS_64 {n : Nat} {l : List UInt8} (hl : l.length ≤ 11440) : ∀ p ∈ encS n l, p.length = 64 := fun x hx => by
  simp only [encS, List.mem_map] at hx
  obtain ⟨f, hf, rfl⟩ := hx
  obtain ⟨-, -, h3⟩ := frmL_ok hl f hf
  exact encF_length _ _ _ _ _ h3
/-- what a slot holds: nothing, or the n-th text. -/
def SlC (F : List (List UInt8)) (n : Nat) (l : List UInt8) : Prop := (F = [] ∧ n = 0) ∨ (F = encS n l ∧ 1 ≤ n ∧ n ≤ 1099511627776 ∧ 0 < l.length ∧ l.length ≤ 11360)
theorem SlC.len {F : List (List UInt8)} {n : Nat} {l : List UInt8} (h : SlC F n l) : F.length < 288 ∧ (∀ p ∈ F, p.length = 64) := by
  rcases h with ⟨rfl, -⟩ | ⟨rfl, -, -, -, h⟩
  · exact ⟨by simp, fun p hp => by cases hp⟩
  · refine ⟨?_, encS_64 (by omega)⟩
    rw [encS_length]
    unfold nCh
    omega
/-- what slot.read hands back, of a slot that may be empty. -/
def RdC (w : World) (n : Nat) (l : List UInt8) (e : Ending) (w' : World) : Prop :=
  ∃ tv, e = .returned (.tuple #[tv, .int .i64 n]) ∧ Chg [] w w' ∧ (n = 0 ∨ ∃ g c, tv = .slice (some ⟨g, 0, none⟩) l.length c ∧ Bs w' (some ⟨g, 0, none⟩) l ∧ Bt w' g ∧ 0 < l.length ∧ l.length ≤ 11360 ∧ l.length ≤ c)
theorem sread_c (w : World) {base n : Nat} {v : Value} {F : List (List UInt8)} {l : List UInt8} (hR : RowsC w base v F) (hv : F = [] → v = .slice none 0 0) (h : SlC F n l) : Calls Tryz.prog 63 #[v] w (RdC w n l) := by
  rcases h with ⟨rfl, rfl⟩ | ⟨rfl, h1, h2, h3, h4⟩
  · rw [hv rfl]
    refine (read_nil w).mono ?_
    rintro e w' ⟨rfl, rfl⟩
    exact ⟨_, rfl, Chg.refl _ _, Or.inl rfl⟩
  · refine (sread_ok w hR rfl h3 (by omega) h2).mono ?_
    rintro e w' ⟨g, c, rfl, k, hb, hbt, -, hc⟩
    exact ⟨_, rfl, k, Or.inr ⟨g, c, rfl, hb, hbt, h3, h4, hc⟩⟩
theorem contf_c (w : World) {base n : Nat} {v : Value} {F : List (List UInt8)} {l : List UInt8} (hR : RowsC w base v F) (hv : F = [] → v = .slice none 0 0) (h : SlC F n l) : Calls Tryz.prog 29 #[v, .func (.func 62) #[] #[]] w fun e w' => e = .returned (.bool false) ∧ w = w' := by
  have hl := h.len.1
  rcases h with ⟨rfl, rfl⟩ | ⟨rfl, h1, h2, h3, h4⟩
  · rw [hv rfl]
    exact contf_nil _ w
  · obtain ⟨g, c, rfl, hc, hX, -⟩ := hR.x (by rw [encS_length]; omega)
    exact contf_slot w hX rfl hc (by omega) (encS_ks (by omega))
end Go.Proofs.YtnelakpdmjfolaaGreat
