/- Lemmas and walks. -/
import Derived.Deep.QuietTactic
import Derived.Deep.CutBlock
import Derived.Test.YtelakcjbknbehaaGreatEa
import Derived.Test.YtelakcjbknbehaaGreatEb
import Derived.Test.YtelakcjbknbehaaGreatEd
import Derived.Test.YtelakcjbknbehaaGreatEe
import Derived.Test.YtelakcjbknbehaaGreatEf
import Derived.Test.YtelakcjbknbehaaGreatEg
import Derived.Test.YtelakcjbknbehaaGreatEh
import Derived.Test.YtelakcjbknbehaaGreatEj
import Derived.Test.YtelakcjbknbehaaGreatEk
namespace Go.Proofs.YtelakcjbknbehaaGreat
open Go.RowKit Go.Lib

theorem applyV_not {vs : Int → List (Int × List UInt8)} {k b : Int} {l : List (Int × List UInt8)} (h : b ∉ l.map Prod.fst) : applyV vs k l b = vs b := by
 induction l generalizing vs with
 | nil => rfl
 | cons p l ih =>
  simp only [List.map_cons, List.mem_cons, not_or] at h
  show applyV (addV vs p.1 (k, p.2)) k l b = _
  rw [ih h.2]
  simp [addV, h.1]
theorem applyV_mem {vs : Int → List (Int × List UInt8)} {k b : Int} {d : List UInt8} {l : List (Int × List UInt8)} (hn : (l.map Prod.fst).Nodup) (h : (b, d) ∈ l) : applyV vs k l b = vs b ++ [(k, d)] := by
 induction l generalizing vs with
 | nil => cases h
 | cons p l ih =>
  simp only [List.map_cons, List.nodup_cons] at hn
  show applyV (addV vs p.1 (k, p.2)) k l b = _
  rcases List.mem_cons.1 h with rfl | h
  ·rw [applyV_not hn.1]
   simp [addV]
  ·have hne : b ≠ p.1 := fun e => hn.1 (by rw [← e]; exact List.mem_map.2 ⟨_, h, rfl⟩)
   rw [ih hn.2 h]
   simp [addV, hne]
theorem bytT_last (l : List (Int × List UInt8)) {k t : Int} (d : List UInt8) (h : k ≤ t) : bytT (l ++ [(k, d)]) t = d := by
 unfold bytT verT
 rw [List.reverse_append]
 simp [h]
theorem putsL_fst (L : List (Int × Value)) (D : Int → List UInt8) : (putsL L D).map Prod.fst = sortI (L.map Prod.fst) := by
 unfold putsL
 rw [List.map_map]
 simp [Function.comp_def]
theorem bytT_apply {L : List (Int × Value)} {D : Int → List UInt8} {vs : Int → List (Int × List UInt8)} {k t b : Int} (hn : (L.map Prod.fst).Nodup) (h : k ≤ t) : bytT (applyV vs k (putsL L D) b) t = if b ∈ L.map Prod.fst then D b else bytT (vs b) t := by
 have hp := sortI_perm (L.map Prod.fst)
 by_cases hb : b ∈ L.map Prod.fst
 ·have hm : (b, D b) ∈ putsL L D := List.mem_map.2 ⟨b, hp.mem_iff.2 hb, rfl⟩
  have hnd : ((putsL L D).map Prod.fst).Nodup := by rw [putsL_fst]; exact hp.nodup_iff.2 hn
  rw [if_pos hb, applyV_mem hnd hm, bytT_last _ _ h]
 ·rw [if_neg hb, applyV_not (by rw [putsL_fst]; exact fun hm => hb (hp.mem_iff.1 hm))]
theorem Su.congr {w : World} {base : Nat} {d : Ids} {p : Par} {F : World → Prop} {q q' : Int → List UInt8} {L : List (Int × Value)} {n : Nat} (h : Su w base d p F q L n) (hq : ∀ b, 0 ≤ b → b < 258 → q b = q' b) : Su w base d p F q' L n :=
 ⟨h.env, h.tx, h.buf, h.keys, fun b h0 h1 => hq b h0 h1 ▸ h.blk b h0 h1, h.vw, h.sp, h.high⟩
theorem getL_keyn {L : List (Int × Value)} {k : Int} (h : k ∉ L.map Prod.fst) : getL L k = none := by
 cases hg : getL L k with
 | none => rfl
 | some v => exact absurd (List.mem_map.2 ⟨_, getL_memk hg, rfl⟩) h
theorem Su.seen {w : World} {base : Nat} {d : Ids} {p : Par} {F : World → Prop} {q : Int → List UInt8} {L : List (Int × Value)} {n : Nat} {k t : Int} (h : Su w base d p F q L n) (hkt : k ≤ t) (ho : OldV p.Lv p.vs p.t) (hpt : p.t ≤ t) (b : Int) (h0 : 0 ≤ b) (h1 : b < 258) : bytT (applyV p.vs k (putsL L q) b) t = q b := by
 rw [bytT_apply h.buf.2.nodup hkt]
 by_cases hb : b ∈ L.map Prod.fst
 ·rw [if_pos hb]
 ·rw [if_neg hb]
  rcases h.blk b h0 h1 with ⟨-, e⟩ | ⟨g, c, e, -⟩
  ·rw [e]
   unfold bytT verT
   have hall : ∀ x ∈ (p.vs b).reverse, x.1 ≤ p.t := fun x hx => ho.2 b x (List.mem_reverse.1 hx)
   have hf : ∀ (l : List (Int × List UInt8)), (∀ x ∈ l, x.1 ≤ p.t) → l.find? (fun x => decide (x.1 ≤ t)) = l.find? (fun x => decide (x.1 ≤ p.t)) := by
    intro l hl
    cases l with
    | nil => rfl
    | cons x l =>
     have h2 := hl x List.mem_cons_self
     rw [List.find?_cons_of_pos (by simp; omega), List.find?_cons_of_pos (by simp; omega)]
   rw [hf _ hall]
  ·rw [getL_keyn hb] at e
   cases e
def Kp (lw : Nat) (w w' : World) : Prop := ∃ U, Chg U w w' ∧ ∀ x ∈ U, x < w.heap.size → lw ≤ x
theorem Kp.of_chg {lw : Nat} {w w' : World} (h : Chg [] w w') : Kp lw w w' := ⟨[], h, fun x hx => by cases hx⟩
theorem Kp.of_cs {lw : Nat} {w w' : World} (h : Cs lw w w') : Kp lw w w' := by obtain ⟨U, h1, h2⟩ := h; exact ⟨U, h1, fun x hx hl => (h2 x hx hl).1⟩
theorem Kp.of_ow {lw base : Nat} {w w' : World} (h : Ow base w w') (hb : lw ≤ base) : Kp lw w w' := by obtain ⟨U, h1, h2⟩ := h; exact ⟨U, h1, fun x hx _ => Nat.le_trans hb (h2 x hx).1⟩
theorem Cq.size {lw c : Nat} {w w' : World} (h : Cq lw c w w') : w.heap.size ≤ w'.heap.size := by obtain ⟨U, h1, -⟩ := h; exact h1.size
theorem Kp.of_cq {lw c : Nat} {w w' : World} (h : Cq lw c w w') : Kp lw w w' := by obtain ⟨U, h1, h2⟩ := h; exact ⟨U, h1, fun x hx hl => (h2 x hx hl).1⟩
structure Pln (s : Gs) (g : Gd) (q : Int → List UInt8) (j : Nat) : Prop where
 out : s.out = 0
 rd : s.rd = false
 lastv : s.lastv = s.last
 given : s.last ≤ s.given ∧ s.given ≤ j
 last : 0 ≤ s.last
 num : 0 ≤ s.num ∧ s.num ≤ j
 bl : 0 ≤ s.bl ∧ s.bl ≤ j
 old : ∀ b, ∀ x ∈ s.vs b, x.1 ≤ s.last
 small : ∀ b, (s.vs b).length ≤ j
 inn : g.inn = 1 ∨ g.inn = 0
 ops : 0 ≤ g.ops ∧ g.ops ≤ 400 * j + 10
 cnt : g.cnt ≤ j ∧ g.num ≤ j
 log : (g.zs 6).length = min g.pos 96 ∧ (g.zs 7).length = g.pos - 96 ∧ g.pos ≤ 192
 blk : ∀ b, 0 ≤ b → b < 258 → bytT (s.vs b) s.last = q b
def QNil (w : World) (lw : Nat) (s : Gs) : Prop := ∃ pq cq, s.qv = .slice pq 0 cq ∧ w.ownsRow lw 3 1 (.slice pq 0 cq) 0 []
structure Rst (w : World) (lw : Nat) (d : Ids) (s : Gs) (g : Gd) (q : Int → List UInt8) (j : Nat) : Prop where
 sto : Sto w lw d s g
 pl : Pln s g q j
 lb : s.Lb = []
 qn : QNil w lw s
 lw : lw ≤ w.heap.size
theorem Rst.new {w : World} {lw : Nat} {d : Ids} {ops : Int} (h : Sto w lw d (s00 lw) (g00 lw ops)) (ho : 0 ≤ ops ∧ ops ≤ 2) (hl : lw ≤ w.heap.size) : Rst w lw d (s00 lw) (g00 lw ops) (fun _ => zeroB) 0 :=
 ⟨h, ⟨rfl, rfl, rfl, ⟨Int.le_refl _, Int.le_refl _⟩, Int.le_refl _, ⟨Int.le_refl _, Int.le_refl _⟩, ⟨Int.le_refl _, Int.le_refl _⟩, fun b x hx => (by cases hx), fun b => Nat.le_refl _, Or.inl rfl, ⟨ho.1, by show ops ≤ _; omega⟩, ⟨Nat.le_refl _, Nat.le_refl _⟩, ⟨rfl, rfl, Nat.zero_le _⟩, fun b _ _ => rfl⟩, rfl, ⟨none, 0, rfl, World.ownsRow_nil _ _ _ _⟩, hl⟩
theorem applyV_or {L : List (Int × Value)} {D : Int → List UInt8} {vs : Int → List (Int × List UInt8)} {k : Int} (hn : (L.map Prod.fst).Nodup) (b : Int) : (b ∈ L.map Prod.fst ∧ applyV vs k (putsL L D) b = vs b ++ [(k, D b)]) ∨ applyV vs k (putsL L D) b = vs b := by
 have hp := sortI_perm (L.map Prod.fst)
 by_cases hb : b ∈ L.map Prod.fst
 ·have hm : (b, D b) ∈ putsL L D := List.mem_map.2 ⟨b, hp.mem_iff.2 hb, rfl⟩
  have hnd : ((putsL L D).map Prod.fst).Nodup := by rw [putsL_fst]; exact hp.nodup_iff.2 hn
  exact Or.inl ⟨hb, applyV_mem hnd hm⟩
 ·exact Or.inr (applyV_not (by rw [putsL_fst]; exact fun hm => hb (hp.mem_iff.1 hm)))
theorem nodup_258 (l : List Int) (hn : l.Nodup) (hk : ∀ x ∈ l, 0 ≤ x ∧ x < 258) : l.length ≤ 258 := by
 have := nodup_subK l ((List.range 258).map fun i : Nat => (i : Int)) hn (fun x hx => by
  have := hk x hx
  exact List.mem_map.2 ⟨x.toNat, List.mem_range.2 (by omega), by omega⟩)
 simpa using this
theorem Sto.lv {w : World} {lw : Nat} {d : Ids} {s : Gs} {g : Gd} (h : Sto w lw d s g) : s.Lv.length ≤ 258 := by
 have := nodup_258 (s.Lv.map Prod.fst) h.mx.ver.m.nodup (fun x hx => by
  obtain ⟨p, hp, rfl⟩ := List.mem_map.1 hx
  exact h.keys p hp)
 simpa using this
def QN0 (w : World) (lw : Nat) (s : Gs) : Prop := ∃ pq, s.qv = .slice pq 0 0 ∧ w.ownsRow lw 3 1 (.slice pq 0 0) 0 []
structure Srs (w : World) (lw : Nat) (d : Ids) (s : Gs) (g : Gd) (q : Int → List UInt8) (j : Nat) : Prop where
 sto : Sto w lw d s g
 pl : Pln s g q j
 lb : s.Lb = []
 qn : QN0 w lw s
 lw : lw ≤ w.heap.size
theorem QN0.keepX {w w' : World} {lw : Nat} {s : Gs} {lo : Nat} {ro : Option Nat} (h : QN0 w lw s) (k : FxR lo ro w w') : QN0 w' lw s := by
 obtain ⟨U, h1, h2⟩ := k
 obtain ⟨pq, e, h3⟩ := h
 refine ⟨pq, e, own_kp h3 h1 (fun g hg hm => ?_)⟩
 obtain ⟨-, cs, hh⟩ := own_elem h3 hg
 exact FxR.avx h2 [3] (by decide) g hm _ _ _ hh (by simp)
theorem QN0.keep {w w' : World} {lw : Nat} {s : Gs} {U : List Nat} (h : QN0 w lw s) (k : Chg U w w') (hU : ∀ x ∈ U, ∀ cs, w.heap[x]? ≠ some (.cells cs 3 (0, 0))) : QN0 w' lw s := by
 obtain ⟨pq, e, h3⟩ := h
 refine ⟨pq, e, own_kp h3 k (fun g hg hm => ?_)⟩
 obtain ⟨-, cs, hh⟩ := own_elem h3 hg
 exact hU g hm cs hh
theorem Srs.keepX {w w' : World} {lw : Nat} {d : Ids} {s : Gs} {g : Gd} {q : Int → List UInt8} {j : Nat} {lo : Nat} {ro : Option Nat} (h : Srs w lw d s g q j) (k : FxR lo ro w w') : Srs w' lw d s g q j :=
 ⟨h.sto.keepX k, h.pl, h.lb, h.qn.keepX k, Nat.le_trans h.lw k.size⟩
theorem Srs.keep {w w' : World} {lw : Nat} {d : Ids} {s : Gs} {g : Gd} {q : Int → List UInt8} {j : Nat} (h : Srs w lw d s g q j) (k : Chg [] w w') : Srs w' lw d s g q j :=
 h.keepX (lo := 0) (ro := none) ⟨[], k, fun x hx => by cases hx⟩
structure Sop (w : World) (lw : Nat) (d : Ids) (s : Gs) (g : Gd) (q0 : Int → List UInt8) (j base : Nat) (q : Int → List UInt8) (L : List (Int × Value)) (n : Nat) : Prop where
 pl : Pln s g q0 j
 lb : s.Lb = []
 qn : QN0 w lw s
 low : lw ≤ base ∧ lw ≤ w.heap.size ∧ lw ≤ d.T
 lt : d.rx < base ∧ d.rb < base ∧ d.r < base
 su : Su w base d (begP s) (StoF lw d (begS s d.T) g) q L n
theorem Sop.fr {w : World} {lw base j n : Nat} {d : Ids} {s : Gs} {g : Gd} {q0 q : Int → List UInt8} {L : List (Int × Value)} (h : Sop w lw d s g q0 j base q L n) : Fr base d (begP s) (StoF lw d (begS s d.T) g) :=
 fr_sto h.lt ((getL_put _ _ _ _).trans (if_pos rfl)) rfl rfl rfl rfl
theorem Sop.step {w w' : World} {lw base j n n' : Nat} {d : Ids} {s : Gs} {g : Gd} {q0 q q' : Int → List UInt8} {L L' : List (Int × Value)} (h : Sop w lw d s g q0 j base q L n) (ho : Ow base w w') (hm : Su w' base d (begP s) (StoF lw d (begS s d.T) g) q' L' n') : Sop w' lw d s g q0 j base q' L' n' := by
 refine ⟨h.pl, h.lb, ?_, ⟨h.low.1, Nat.le_trans h.low.2.1 ho.size, h.low.2.2⟩, h.lt, hm⟩
 obtain ⟨T, h1, h2⟩ := ho
 exact h.qn.keep h1 (fun x hx cs hh => absurd ((h2 x hx).2 _ _ _ hh) (by decide))
theorem Sop.keepX {w w' : World} {lw base j n : Nat} {d : Ids} {s : Gs} {g : Gd} {q0 q : Int → List UInt8} {L : List (Int × Value)} {lo : Nat} {ro : Option Nat} (h : Sop w lw d s g q0 j base q L n) (k : FxR lo ro w w') (hne : ∀ s g, w.cell? ⟨d.Q, 4, none⟩ = some s → s.ownBlock = some g → ro ≠ some g) : Sop w' lw d s g q0 j base q L n ∧ w'.cell? ⟨d.Q, 4, none⟩ = w.cell? ⟨d.Q, 4, none⟩ := by
 obtain ⟨h1, h2⟩ := h.su.keepX k hne
 exact ⟨⟨h.pl, h.lb, h.qn.keepX k, ⟨h.low.1, Nat.le_trans h.low.2.1 k.size, h.low.2.2⟩, h.lt, h1⟩, h2⟩
theorem FxR.kp {lo : Nat} {ro : Option Nat} {w w' : World} (h : FxR lo ro w w') : Kp lo w w' := by
 obtain ⟨U, h1, h2⟩ := h
 exact ⟨U, h1, fun x hx hl => (h2 x hx hl).1⟩
theorem fst_begin (w : World) {lw j : Nat} {d : Ids} {s : Gs} {g : Gd} {q : Int → List UInt8} (h : Srs w lw d s g q j) (hj : j ≤ 100000) :
  Calls Tryz.prog 16 #[.pointer (some ⟨d.P, 0, none⟩)] w fun e w' => e = .returned (.tuple #[.int .i64 (s.bl + 1), .int .i64 0]) ∧ ∃ d', (d'.P = d.P ∧ d'.N = d.N) ∧ Sop w' lw d' s g q j w.heap.size q [] 0 ∧ FsR none w w' ∧ Kp lw w w' := by
 have hp := h.pl
 have h1 := hp.last
 have h3 := hp.given
 have h2 := hp.bl
 refine (sbegin_q w h.sto h.lb h1 (by omega) h2.1 (by omega)).mono ?_
 rintro e w' ⟨rfl, ⟨T, W, rw, Q, V, cs, hT, hSu⟩, kB⟩
 have hm := h.sto.mx
 refine ⟨rfl, { d with T := T, W := W, rw := rw, Q := Q, V := V }, ⟨rfl, rfl⟩, ⟨hp, h.lb, h.qn.keep kB (fun x hx cs hh => ?_), ⟨h.lw, Nat.le_trans h.lw cs.size, Nat.le_trans h.lw hT⟩, ⟨hm.ver.m.lt, hm.book.2.lt, hm.map.lt⟩, hSu.congr hp.blk⟩, fs_begin h.sto kB, Kp.of_cs cs⟩
 simp only [List.mem_cons, List.not_mem_nil, or_false] at hx
 rcases hx with rfl | rfl | rfl
 ·rw [hm.book.1] at hh; cases hh
 ·exact map_cells hm.book.2 hh rfl
 ·exact map_cells hm.map hh rfl
theorem fst_read (w : World) {lw base j n : Nat} {d : Ids} {s : Gs} {g : Gd} {q0 q : Int → List UInt8} {L : List (Int × Value)} {b : Int} (h : Sop w lw d s g q0 j base q L n) (hn : n ≤ 60) (h0 : 0 ≤ b) (h1 : b < 258) :
  Calls Tryz.prog 39 #[.pointer (some ⟨d.P, 0, none⟩), .int .i64 (s.bl + 1), .agg #[.int .i64 b, .int .i64 1]] w fun e w' => ∃ gx c', e = .returned (.tuple #[.slice (some ⟨gx, 0, none⟩) 40 c', .int .i64 0]) ∧ 40 ≤ c' ∧ w.heap.size ≤ gx ∧ Bs w' (some ⟨gx, 0, none⟩) (q b) ∧
   Sop w' lw d s g q0 j base q L (n + 1) ∧ RdW base d w w' ∧ ∃ sv, w.cell? ⟨d.Q, 4, none⟩ = some sv ∧ FsR sv.ownBlock w w' := by
 refine (sread_x w h.fr h.su hn h0 h1).mono ?_
 rintro e w' ⟨gx, c', rfl, hc, hrd, hsu, hgx, hbs⟩
 exact ⟨gx, c', rfl, hc, hgx, hbs, h.step hrd.ow hsu, hrd, fs_read hrd h.su.vw h.su.sp⟩
structure Swt (w : World) (lw : Nat) (d : Ids) (s : Gs) (g : Gd) (q0 : Int → List UInt8) (j : Nat) (q : Int → List UInt8) (m : Nat) : Prop where
 pl : Pln s g q0 j
 lb : s.Lb = []
 low : lw ≤ w.heap.size ∧ lw ≤ d.T
 tx : ∃ gq cq L, ∃ k : Nat, Sto w lw d (comS (begS s d.T) gq cq) g ∧ Wtx w d (comS (begS s d.T) gq cq) gq cq (s.bl + 1) k s.last s.last L q ∧ (k : Int) = s.given + 1 ∧ L.length ≤ m ∧
  (∀ b, 0 ≤ b → b < 258 → bytT (applyV s.vs k (putsL L q) b) k = q b)
theorem Swt.keepX {w w' : World} {lw j m : Nat} {d : Ids} {s : Gs} {g : Gd} {q0 q : Int → List UInt8} {lo : Nat} {ro : Option Nat} (h : Swt w lw d s g q0 j q m) (k : FxR lo ro w w') : Swt w' lw d s g q0 j q m := by
 obtain ⟨gq, cq, L, kk, h1, h2, h3⟩ := h.tx
 exact ⟨h.pl, h.lb, ⟨Nat.le_trans h.low.1 k.size, h.low.2⟩, gq, cq, L, kk, h1.keepX k, h2.keepX k, h3⟩
theorem fst_commit (w : World) {lw base j n m : Nat} {d : Ids} {s : Gs} {g : Gd} {q0 q : Int → List UInt8} {L : List (Int × Value)} (h : Sop w lw d s g q0 j base q L n) (h0 : 0 < L.length) (hm : L.length ≤ m) (hm16 : m ≤ 16) (hn : n ≤ 16) (hj : j ≤ 100000) :
  Calls Tryz.prog 19 #[.pointer (some ⟨d.P, 0, none⟩), .int .i64 (s.bl + 1)] w fun e w' => e = .returned (.int .i64 0) ∧ Swt w' lw d s g q0 j q m ∧ FsR none w w' ∧ Kp lw w w' := by
 have hS : Sto w lw d (begS s d.T) g := h.su.env
 have hp := h.pl
 have hl := hp.last
 have hg := hp.given
 obtain ⟨pq, hq1, hq2⟩ := h.qn
 obtain ⟨k, hk⟩ : ∃ k : Nat, (k : Int) = s.given + 1 := ⟨(s.given + 1).toNat, by omega⟩
 have ho : OldV s.Lv s.vs s.last := ⟨hS.keys, hp.old⟩
 have hlow := h.low
 refine (scommit_sto w (p := begP s) (n := n) (k := k) (loq := lw) (pq := pq) (cq := 0) h.fr h.su hq1 hq2 (by omega) (Nat.le_refl _) hp.rd ho (by show s.given + 1 = _; rw [hk]) (by show s.given < _; omega) (by show 0 ≤ s.given; omega) (by omega) h0 hn ((getL_put _ _ _ _).trans (if_pos rfl)) (if_pos rfl) h.low.2.2).mono ?_
 rintro e w' ⟨rfl, gq, cq', k1, k2, k3⟩
 refine ⟨rfl, ⟨hp, h.lb, ⟨by have := k3.size; omega, h.low.2.2⟩, gq, cq', L, k, k1, k2, hk, hm, fun b b0 b1 => ?_⟩, fs_cq k3, Kp.of_cq k3⟩
 exact h.su.seen (k := k) (t := k) (Int.le_refl _) ho (by show s.last ≤ _; omega) b b0 b1
theorem fst_check (w : World) {lw j m : Nat} {d : Ids} {s : Gs} {g : Gd} {q0 q : Int → List UInt8} (h : Swt w lw d s g q0 j q m) (hj : j ≤ 1900) :
  Calls Tryz.prog 20 #[.pointer (some ⟨d.P, 0, none⟩)] w fun e w' => e = .returned (.int .i64 0) ∧ (∃ g', Swt w' lw d s g' q0 (j + 1) q m ∧ g'.pos = 0) ∧ FsR none w w' ∧ Kp lw w w' := by
 obtain ⟨gq, cq, L, k, h1, h2, hk, hLm, hb⟩ := h.tx
 have hp := h.pl
 have hl := hp.last
 have hg := hp.given
 obtain ⟨inn, i, a, hi, hinn⟩ : ∃ inn i a : Nat, ((inn = 1 ∧ i = 0 ∧ a = 0) ∨ (inn = 0 ∧ i = 1 ∧ a = 3)) ∧ g.inn = inn := by
  rcases hp.inn with e | e
  ·exact ⟨1, 0, 0, Or.inl ⟨rfl, rfl, rfl⟩, e⟩
  ·exact ⟨0, 1, 3, Or.inr ⟨rfl, rfl, rfl⟩, e⟩
 have hops := hp.ops
 have hcnt := hp.cnt
 refine (scheck_ok w (lst := s.last.toNat) h1 hi hinn h1.lv (by show s.last = _; omega) (by omega) hops.1 (by omega) (by omega) h.low.1).mono ?_
 rintro e w' ⟨rfl, tv, ops, dv, ho, k1, k2⟩
 refine ⟨rfl, ⟨_, ⟨⟨hp.out, hp.rd, hp.lastv, ⟨hg.1, by omega⟩, hl, ⟨hp.num.1, by have := hp.num.2; omega⟩, ⟨hp.bl.1, by have := hp.bl.2; omega⟩, hp.old, fun b => Nat.le_succ_of_le (hp.small b), ?_, ?_, ?_, ⟨rfl, rfl, Nat.zero_le _⟩, hp.blk⟩, h.lb, ⟨by have := k2.cs.size; have := h.low.1; omega, h.low.2⟩, gq, cq, L, k, k1, h2.keepW k2, hk, hLm, hb⟩, rfl⟩, fs_cs k2.cs, Kp.of_cs k2.cs⟩
 ·show (i : Int) = 1 ∨ (i : Int) = 0
  omega
 ·show 0 ≤ ops ∧ ops ≤ _
  omega
 ·show g.cnt + 1 ≤ _ ∧ 0 ≤ _
  omega
theorem fst_flush (w : World) {lw j m : Nat} {d : Ids} {s : Gs} {g : Gd} {q0 q : Int → List UInt8} (h : Swt w lw d s g q0 j q m) (hj : j ≤ 2000) (_hm : m ≤ 16) (hpos0 : g.pos = 0) :
  Calls Tryz.prog 21 #[.pointer (some ⟨d.P, 0, none⟩)] w fun e w' => e = .returned (.int .i64 0) ∧ (∃ s' g', Srs w' lw d s' g' q (j + 1) ∧ s'.bl = s.bl + 1) ∧ FsR none w w' ∧ Kp lw w w' := by
 obtain ⟨gq, cq, L, k, h1, h2, hk, hLm, hb⟩ := h.tx
 have hp := h.pl
 have hl := hp.last
 have hg := hp.given
 have hops := hp.ops
 have hcnt := hp.cnt
 have hnum := hp.num
 have hbl := hp.bl
 have hlog := hp.log
 have hlen := putsL_length L q
 have hnd := h2.buf.2.nodup
 have hL16 := h2.len
 have hsm : ∀ c, (s.vs c).length + 16 < 1000000 := fun c => by have := hp.small c; omega
 refine (sflush_two w (k := k) h1 h2 hp.out h.low.2 h.low.1 (by omega) (by show s.lastv < _; rw [hp.lastv]; omega) (by omega) hsm hnum.1 (by show s.num ≤ _; omega) hlog.1 hlog.2.1 (by omega) hops.1 (by omega) (by omega) (by omega)).mono ?_
 rintro e w' ⟨rfl, z, Lv', dv, k1, k2, k3⟩
 have hor := fun b => applyV_or (D := q) (vs := s.vs) (k := k) hnd b
 have hzl := logZ_len (bl := batL g.cnt (g.num + 1) k (putsL L q)) hlog.1 hlog.2.1 ((putsL L q).length + 1) (by rw [batL_length]; exact Nat.le_refl _) (by rw [hlen]; omega)
 refine ⟨rfl, ⟨_, doneT g dv k (putsL L q), ⟨k1, ⟨rfl, hp.rd, rfl, ?_, ?_, ?_, ?_, fun b x hx => ?_, fun b => ?_, hp.inn, ?_, ?_, ?_, hb⟩, ?_, ⟨_, rfl, k3⟩, by have := k2.size; have := h.low; omega⟩, rfl⟩, fs_cs k2, Kp.of_cs k2⟩
 ·show (k : Int) ≤ s.given + 1 ∧ s.given + 1 ≤ _
  omega
 ·show 0 ≤ (k : Int)
  omega
 ·show 0 ≤ s.num + 1 ∧ s.num + 1 ≤ _
  omega
 ·show 0 ≤ s.bl + 1 ∧ s.bl + 1 ≤ _
  omega
 ·have hx2 : x ∈ applyV s.vs k (putsL L q) b := hx
  show x.1 ≤ (k : Int)
  rcases hor b with ⟨-, e⟩ | e
  ·rw [e] at hx2
   rcases List.mem_append.1 hx2 with hx3 | hx3
   ·have := hp.old b x hx3; omega
   ·rw [List.mem_singleton] at hx3; rw [hx3]; exact Int.le_refl _
  ·rw [e] at hx2
   have := hp.old b x hx2; omega
 ·show (applyV s.vs k (putsL L q) b).length ≤ _
  have := hp.small b
  rcases hor b with ⟨-, e⟩ | e
  ·rw [e, List.length_append, List.length_singleton]; omega
  ·rw [e]; omega
 ·show 0 ≤ g.ops + ((putsL L q).length : Int) + 2 ∧ g.ops + ((putsL L q).length : Int) + 2 ≤ _
  omega
 ·show g.cnt ≤ _ ∧ g.num + 1 ≤ _
  omega
 ·show (logZ g.zs g.pos (batL g.cnt (g.num + 1) k (putsL L q)) ((putsL L q).length + 1) 6).length = min (g.pos + (putsL L q).length + 1) 96 ∧ (logZ g.zs g.pos (batL g.cnt (g.num + 1) k (putsL L q)) ((putsL L q).length + 1) 7).length = g.pos + (putsL L q).length + 1 - 96 ∧ g.pos + (putsL L q).length + 1 ≤ 192
  rw [hzl.1, hzl.2]
  omega
 ·show delL [(s.bl + 1, _)] (s.bl + 1) = []; simp [delL]
structure RfR (w : World) (lo G Y n : Nat) (Tv : Value) (xs : List Value) (num giv dn : Int) (L : List (Int × Int × List UInt8)) : Prop where
 m : ∃ qv qhv, RmS w G Y (.slice none 0 0) (.slice none 0 0) Tv qv qhv n num giv dn 0 ∧ Nl0 qv ∧ Nl0 qhv
 T : w.ownsRow lo 163 1 Tv n xs
 y : RyAt w Y L dn
 low : lo ≤ G ∧ lo ≤ Y ∧ lo ≤ w.heap.size
structure RfW (w : World) (lo G Y D V U n : Nat) (Tv : Value) (xs : List Value) (num giv dn : Int) (L : List (Int × Int × List UInt8)) (P : List (Int × List UInt8)) : Prop where
 m : ∃ a b qv qhv pv, RmS w G Y a b Tv qv qhv (n + 1 : Nat) num giv dn 0 ∧ Int1 w a (n + 1 : Nat) ∧ Int1 w b dn ∧ Tx1 w qv giv pv ∧ PuX w pv P ∧ Int1 w qhv (n + 1 : Nat)
 T : w.ownsRow lo 163 1 Tv (n + 1) (xs ++ [.pointer (some ⟨D, 0, none⟩)])
 d : RtAt w D V U 2 giv 0
 y : RyAt w Y L dn
 low : lo ≤ G ∧ lo ≤ Y ∧ lo ≤ D ∧ lo ≤ w.heap.size
theorem FsR.parts {so : Option Nat} {w w' : World} (hk : FsR so w w') : ∃ X, Chg X w w' ∧ (∀ ts : List Nat, (∀ t ∈ ts, t ∈ [120, 167, 180, 173, 247, 163, 259, 185, 50, 79, 5]) → Av w X ts) ∧ (∀ g ∈ X, ∀ cs fr, w.heap[g]? = some (.cells cs 3 fr) → cs.size = 0) ∧
  (∀ {base e size n : Nat} {v : Value} {xs : List Value}, w.ownsRow base e size v n xs → e ∈ [120, 167, 180, 173, 247, 163, 259, 185, 50, 79, 5] → w'.ownsRow base e size v n xs) := by
 obtain ⟨X, h1, h2⟩ := hk
 exact ⟨X, h1, fun ts hts x hx cs t fr hh ht => (h2 x hx cs t fr hh).1 (hts t ht), fun g hg cs fr hh => (h2 g hg cs 3 fr hh).2.1 rfl, fun ho he => own_kp ho h1 (fun g hg hm => by
  obtain ⟨-, cs, hh⟩ := own_elem ho hg
  exact (h2 g hm cs _ _ hh).1 he)⟩
theorem RfR.keepS {w w' : World} {so : Option Nat} {lo G Y n : Nat} {Tv : Value} {xs : List Value} {num giv dn : Int} {L : List (Int × Int × List UInt8)} (h : RfR w lo G Y n Tv xs num giv dn L) (hk : FsR so w w') : RfR w' lo G Y n Tv xs num giv dn L := by
 obtain ⟨X, h1, av, -, own⟩ := hk.parts
 obtain ⟨qv, qhv, m1, m2, m3⟩ := h.m
 exact ⟨⟨qv, qhv, h1.heap m1 ((av [120] (by decide)).ne m1 (by simp)), m2, m3⟩, own h.T (by simp), h.y.keepA h1 (av _ (by decide)), h.low.1, h.low.2.1, Nat.le_trans h.low.2.2 h1.size⟩
theorem RfW.keepS {w w' : World} {so : Option Nat} {lo G Y D V U n : Nat} {Tv : Value} {xs : List Value} {num giv dn : Int} {L : List (Int × Int × List UInt8)} {P : List (Int × List UInt8)} (h : RfW w lo G Y D V U n Tv xs num giv dn L P) (hk : FsR so w w') : RfW w' lo G Y D V U n Tv xs num giv dn L P := by
 obtain ⟨X, h1, av, i3, own⟩ := hk.parts
 obtain ⟨a, b, qv, qhv, pv, m1, m2, m3, m4, m5, m6⟩ := h.m
 exact ⟨⟨a, b, qv, qhv, pv, h1.heap m1 ((av [120] (by decide)).ne m1 (by simp)), m2.keepT h1 i3, m3.keepT h1 i3, m4.keepA h1 (av _ (by decide)), m5.keepA h1 (av _ (by decide)), m6.keepT h1 i3⟩, own h.T (by simp), h1.heap h.d ((av [167] (by decide)).ne h.d (by simp)), h.y.keepA h1 (av _ (by decide)), h.low.1, h.low.2.1, h.low.2.2.1, Nat.le_trans h.low.2.2.2 h1.size⟩
theorem rfbegin (w : World) {lo G Y n : Nat} {Tv : Value} {xs : List Value} {num giv dn : Int} {L : List (Int × Int × List UInt8)} (h : RfR w lo G Y n Tv xs num giv dn L) (h0 : 0 ≤ dn) (h1 : dn ≤ 1099511627776) (hn : n ≤ 100000) : Calls Tryz.prog 36 #[.pointer (some ⟨G, 0, none⟩)] w fun e w' =>
  e = .returned (.tuple #[.int .i64 (n + 1 : Nat), .int .i64 0]) ∧ ∃ D V U Tv', RfO w' lo G Y D V U n 0 Tv' xs num giv dn L [] [] ∧ w'.cell? ⟨V, 5, none⟩ = some (.slice none 0 0) ∧ FxR lo none w w' := by
 obtain ⟨qv, qhv, m1, m2, m3⟩ := h.m
 refine (rbegin2 w m1 h.T h.low.2.2 h0 h1 hn).mono ?_
 rintro e w' ⟨rfl, a, b, Tv', D, V, U, r1, r2, r3, r4, r5, r6, r7, r8, r9, kk, r10⟩
 have hTy : ∀ x ∈ G :: Tv.ownBlock.toList, x < w.heap.size → lo ≤ x ∧ ∃ cs t, w.heap[x]? = some (.cells cs t (0, 0)) ∧ (t ∈ [120, 163, 167, 180, 173, 247] ∨ t = 255 ∧ none = some x) := fun x hx _ => by
  rcases List.mem_cons.1 hx with rfl | hx
  ·exact ⟨h.low.1, _, _, m1, Or.inl (by simp)⟩
  ·obtain ⟨hl, cs, hh⟩ := own_elem h.T (show Tv.ownBlock = some x by simpa using hx)
   exact ⟨hl, cs, _, hh, Or.inl (by simp)⟩
 have avb : Av w (G :: Tv.ownBlock.toList) [247, 5, 259] := fun x hx cs t fr hh => by
  rcases List.mem_cons.1 hx with rfl | hx
  ·rw [m1] at hh; cases hh; decide
  ·obtain ⟨-, cs', hh'⟩ := own_elem h.T (show Tv.ownBlock = some x by simpa using hx)
   rw [hh] at hh'
   cases hh'
   decide
 refine ⟨rfl, D, V, U, Tv', ⟨⟨a, b, qv, qhv, r1, r2, r3, m2, m3⟩, r4, r5, r6, r8, h.y.keepA kk avb, h.low.1, h.low.2.1, Nat.le_trans h.low.2.2 r9.1, Nat.le_trans h.low.2.2 r9.2.1, Nat.le_trans h.low.2.2 r9.2.2, Nat.le_trans h.low.2.2 kk.size⟩, r7, _, kk, hTy⟩
theorem rfflush (w : World) {lo G Y D V U n : Nat} {Tv : Value} {xs : List Value} {num giv dn : Int} {L : List (Int × Int × List UInt8)} {P : List (Int × List UInt8)} (h : RfW w lo G Y D V U n Tv xs num giv dn L P) (hn : n ≤ 100000) (hN : L.length ≤ 100000) (h0 : 0 < P.length) (h16 : P.length ≤ 16) (ht0 : dn < giv) (ht1 : giv ≤ 1099511627776) (hr : RiseL P) (hk : ∀ p ∈ P, 0 ≤ p.1 ∧ p.1 < 258) (hn0 : 0 ≤ num) (hn1 : num ≤ 1000000) :
  Calls Tryz.prog 43 #[.pointer (some ⟨G, 0, none⟩)] w fun e w' => e = .returned (.int .i64 0) ∧ RfR w' lo G Y (n + 1) Tv (xs ++ [.pointer (some ⟨D, 0, none⟩)]) (num + 1) giv giv (mergeR giv L P) ∧ FxR lo none w w' := by
 obtain ⟨a, b, qv, qhv, pv, m1, m2, m3, m4, m5, m6⟩ := h.m
 obtain ⟨yv, y1, -⟩ := id h.y
 refine (rflush_one w m1 m2 m3 h.T h.d hn m4 m5 m6 h.y hN h0 h16 ht0 ht1 hr hk hn0 hn1).mono ?_
 rintro e w' ⟨rfl, qv', qhv', q1, q2, q3, q4, kk⟩
 have hTy : ∀ x ∈ [G, Y, D], x < w.heap.size → lo ≤ x ∧ ∃ cs t, w.heap[x]? = some (.cells cs t (0, 0)) ∧ (t ∈ [120, 163, 167, 180, 173, 247] ∨ t = 255 ∧ none = some x) := fun x hx _ => by
  simp only [List.mem_cons, List.not_mem_nil, or_false] at hx
  rcases hx with rfl | rfl | rfl
  ·exact ⟨h.low.1, _, _, m1, Or.inl (by simp)⟩
  ·exact ⟨h.low.2.1, _, _, y1, Or.inl (by simp)⟩
  ·exact ⟨h.low.2.2.1, _, _, h.d, Or.inl (by simp)⟩
 refine ⟨rfl, ⟨⟨qv', qhv', q1, q2, q3⟩, own_kp h.T kk (fun g hg hm => ?_), q4, h.low.1, h.low.2.1, Nat.le_trans h.low.2.2.2 kk.size⟩, _, kk, hTy⟩
 obtain ⟨-, cs, hh⟩ := own_elem h.T hg
 simp only [List.mem_cons, List.not_mem_nil, or_false] at hm
 rcases hm with rfl | rfl | rfl
 ·rw [m1] at hh; cases hh
 ·rw [y1] at hh; cases hh
 ·rw [h.d] at hh; cases hh
theorem rfcommit (w : World) {lo G Y D V U n k : Nat} {Tv : Value} {xs : List Value} {num giv dn : Int} {L : List (Int × Int × List UInt8)} {S : List (Int × Int)} {P : List (Int × List UInt8)} (h : RfO w lo G Y D V U n k Tv xs num giv dn L S P) (hn : n ≤ 100000) (hN : L.length ≤ 100000) (h0 : 0 < P.length) (h16 : P.length ≤ 16) (hk : ∀ p ∈ P, 0 ≤ p.1 ∧ p.1 < 258) (hol : ∀ x ∈ L, x.2.1 ≤ dn) (hg0 : 0 ≤ giv) (hg1 : giv ≤ 1000000) :
  Calls Tryz.prog 42 #[.pointer (some ⟨G, 0, none⟩), .int .i64 (n + 1 : Nat)] w fun e w' => e = .returned (.int .i64 0) ∧ RfW w' lo G Y D V U n Tv xs num (giv + 1) dn L P ∧ FxR lo none w w' := by
 obtain ⟨a, b, qv, qhv, m1, m2, m3, m4, m5⟩ := h.m
 refine (rcommit_one w m1 h.T h.d h.v h.u hn m4 m5 h.y hN h0 h16 hk hol hg0 hg1).mono ?_
 rintro e w' ⟨rfl, qv', qhv', pv, q1, q2, q3, q4, q5, kk⟩
 have hTy : ∀ x ∈ [G, D], x < w.heap.size → lo ≤ x ∧ ∃ cs t, w.heap[x]? = some (.cells cs t (0, 0)) ∧ (t ∈ [120, 163, 167, 180, 173, 247] ∨ t = 255 ∧ none = some x) := fun x hx _ => by
  simp only [List.mem_cons, List.not_mem_nil, or_false] at hx
  rcases hx with rfl | rfl
  ·exact ⟨h.low.1, _, _, m1, Or.inl (by simp)⟩
  ·exact ⟨h.low.2.2.1, _, _, h.d, Or.inl (by simp)⟩
 have av : Av w [G, D] [3, 163, 247, 5, 259] := fun x hx cs t fr hh => by
  simp only [List.mem_cons, List.not_mem_nil, or_false] at hx
  rcases hx with rfl | rfl
  ·rw [m1] at hh; cases hh; decide
  ·rw [h.d] at hh; cases hh; decide
 have i3 : ∀ g ∈ [G, D], ∀ cs fr, w.heap[g]? = some (.cells cs 3 fr) → cs.size = 0 := fun g hg cs fr hh => absurd List.mem_cons_self (av g hg _ _ _ hh)
 refine ⟨rfl, ⟨⟨a, b, qv', qhv', pv, q1, m2.keepT kk i3, m3.keepT kk i3, q2, q3, q4⟩, own_kp h.T kk (fun g hg hm => ?_), q5, h.y.keepA kk (fun x hx cs t fr hh ht => av x hx cs t fr hh (by simp at ht; simp [ht])), h.low.1, h.low.2.1, h.low.2.2.1, Nat.le_trans h.low.2.2.2.2.2 kk.size⟩, _, kk, hTy⟩
 obtain ⟨-, cs, hh⟩ := own_elem h.T hg
 exact av g hm _ _ _ hh (by simp)
def DjR (w : World) (Q V : Nat) : Prop := ∀ sv rv g, w.cell? ⟨Q, 4, none⟩ = some sv → w.cell? ⟨V, 5, none⟩ = some rv → sv.ownBlock = some g → rv.ownBlock ≠ some g
structure Jop (w : World) (lw : Nat) (d : Ids) (s : Gs) (g : Gd) (q0 : Int → List UInt8) (j base : Nat) (q : Int → List UInt8) (Ls : List (Int × Value)) (ns : Nat)
  (lo G Y D V U n k : Nat) (Tv : Value) (xs : List Value) (num giv dn : Int) (L : List (Int × Int × List UInt8)) (S : List (Int × Int)) (P : List (Int × List UInt8)) : Prop where
 so : Sop w lw d s g q0 j base q Ls ns
 ro : RfO w lo G Y D V U n k Tv xs num giv dn L S P
 dj : DjR w d.Q V
theorem Sop.sv {w : World} {lw base j n : Nat} {d : Ids} {s : Gs} {g : Gd} {q0 q : Int → List UInt8} {L : List (Int × Value)} (h : Sop w lw d s g q0 j base q L n) : ∃ sv, w.cell? ⟨d.Q, 4, none⟩ = some sv ∧ ∀ g, sv.ownBlock = some g → g < w.heap.size := by
 obtain ⟨sv, m, xs, q1, -, q3⟩ := h.su.vw
 exact ⟨sv, cell_is q1 4 rfl, fun g hg => by obtain ⟨-, cs, hh⟩ := own_elem q3 hg; exact heap_lt hh⟩
theorem RfO.rv {w : World} {lo G Y D V U n k : Nat} {Tv : Value} {xs : List Value} {num giv dn : Int} {L : List (Int × Int × List UInt8)} {S : List (Int × Int)} {P : List (Int × List UInt8)} (h : RfO w lo G Y D V U n k Tv xs num giv dn L S P) : ∃ rv, w.cell? ⟨V, 5, none⟩ = some rv ∧ ∀ g, rv.ownBlock = some g → g < w.heap.size := by
 obtain ⟨sv, rv, xr, v1, v2, v3⟩ := h.v
 exact ⟨rv, cell_is v1 5 rfl, fun g hg => by obtain ⟨-, cs, hh⟩ := own_elem v3 hg; exact heap_lt hh⟩
section
variable {lw base j ns lo G Y D V U n k : Nat} {d : Ids} {s : Gs} {g : Gd} {q0 q : Int → List UInt8} {Ls : List (Int × Value)} {Tv : Value} {xs : List Value} {num giv dn : Int} {L : List (Int × Int × List UInt8)} {S : List (Int × Int)} {P : List (Int × List UInt8)}
theorem Jop.keep {w w' : World} (h : Jop w lw d s g q0 j base q Ls ns lo G Y D V U n k Tv xs num giv dn L S P) (c : Chg [] w w') : Jop w' lw d s g q0 j base q Ls ns lo G Y D V U n k Tv xs num giv dn L S P := by
 obtain ⟨r1, r2⟩ := h.ro.keepS (so := none) (FsR.of_chg c) (fun _ _ _ _ => by simp)
 obtain ⟨s1, s2⟩ := h.so.keepX (lo := 0) (ro := none) ⟨[], c, fun x hx => by cases hx⟩ (fun _ _ _ _ => by simp)
 exact ⟨s1, r1, fun sv rv g hs hr => h.dj sv rv g (by rw [← s2]; exact hs) (by rw [← r2]; exact hr)⟩
theorem jread_s (w : World) {b : Int} (h : Jop w lw d s g q0 j base q Ls ns lo G Y D V U n k Tv xs num giv dn L S P) (hn : ns ≤ 60) (h0 : 0 ≤ b) (h1 : b < 258) :
  Calls Tryz.prog 39 #[.pointer (some ⟨d.P, 0, none⟩), .int .i64 (s.bl + 1), .agg #[.int .i64 b, .int .i64 1]] w fun e w' => ∃ gx c', e = .returned (.tuple #[.slice (some ⟨gx, 0, none⟩) 40 c', .int .i64 0]) ∧ 40 ≤ c' ∧ w.heap.size ≤ gx ∧ Bs w' (some ⟨gx, 0, none⟩) (q b) ∧
   Jop w' lw d s g q0 j base q Ls (ns + 1) lo G Y D V U n k Tv xs num giv dn L S P ∧ (∃ so, FsR so w w') ∧ Kp base w w' := by
 refine (fst_read w h.so hn h0 h1).mono ?_
 rintro e w' ⟨gx, c', rfl, a1, a2, a3, a4, a5, sv, a6, a7⟩
 obtain ⟨rv, b1, b2⟩ := h.ro.rv
 obtain ⟨r1, r2⟩ := h.ro.keepS a7 (fun rv' hr' g' hg' => fun hs => h.dj sv rv' g' a6 hr' hs hg')
 refine ⟨gx, c', rfl, a1, a2, a3, ⟨a4, r1, fun sv' rv' g' hs hr hg' hrg => ?_⟩, ⟨_, a7⟩, Kp.of_ow a5.ow (Nat.le_refl _)⟩
 obtain ⟨T, -, -, s1, s2, e1, e2, -, e4⟩ := a5
 rw [r2] at hr
 rw [e2] at hs
 cases hs
 rcases e4 g' hg' with e | e
 ·exact h.dj s1 rv' g' e1 hr e hrg
 ·rw [b1] at hr
  cases hr
  exact absurd (b2 g' hrg) (by omega)
theorem jread_r (w : World) {a m : Nat} (h : Jop w lw d s g q0 j base q Ls ns lo G Y D V U n k Tv xs num giv dn L S P) (hn : n ≤ 100000) (hP : P.length ≤ 1000) (hL : L.length ≤ 100000) (hS : S.length ≤ 63) (hSi : InE S) (hk : k ≤ 10000) (hm0 : 1 ≤ m) (hm1 : m ≤ 16) (ha : a + m ≤ 258) :
  Calls Tryz.prog 37 #[.pointer (some ⟨G, 0, none⟩), .int .i64 (n + 1 : Nat), .agg #[.int .i64 a, .int .i64 m]] w fun e w' => ∃ v, e = .returned (.tuple #[v, .int .i64 0]) ∧
   w'.ownsRow w.heap.size 5 1 v (40 * m) (Lib.byteCells ((List.range m).flatMap fun i => viewG P L dn (a + i : Nat))) ∧ Jop w' lw d s g q0 j base q Ls ns lo G Y D V U n (k + m) Tv xs num giv dn L (rput S (a, m)) P ∧ Kp lo w w' := by
 refine (rmread w h.ro hn hP hL hS hSi hk hm0 hm1 ha h.ro.low.2.2.2.2.2).mono ?_
 rintro e w' ⟨v, rfl, a1, a2, a3, a4⟩
 obtain ⟨rv, b1, b2⟩ := h.ro.rv
 obtain ⟨sv, c1, c2⟩ := h.so.sv
 obtain ⟨s1, s2⟩ := h.so.keepX a3 (fun sv' g' hs' hg' hr' => by
  rw [b1] at hr'
  exact h.dj sv' rv g' hs' b1 hg' hr')
 refine ⟨v, rfl, a1, ⟨s1, a2, fun sv' rv' g' hs hr hg' hrg => ?_⟩, a3.kp⟩
 obtain ⟨r1, r2, T, e1, e2, -, -, e4⟩ := a4
 rw [s2, c1] at hs
 cases hs
 rw [e2] at hr
 cases hr
 exact h.dj sv r1 g' c1 e1 hg' (e4 g' hrg (c2 g' hg'))
theorem jwrite_s (w : World) {E eo cp B o c : Nat} {b : Int} {l : List UInt8} (h : Jop w lw d s g q0 j base q Ls ns lo G Y D V U n k Tv xs num giv dn L S P)
  (e0 : w.cell? ⟨E, eo, none⟩ = some (.int .i64 b)) (e1 : w.cell? ⟨E, eo + 1, none⟩ = some (.slice (some ⟨B, o, none⟩) 40 c)) (hb : Bs w (some ⟨B, o, none⟩) l) (hl : l.length = 40) (h0 : 0 ≤ b) (h1 : b < 258) (hroom : Ls.length ≤ 15) :
  Calls Tryz.prog 17 #[.pointer (some ⟨d.P, 0, none⟩), .int .i64 (s.bl + 1), .slice (some ⟨E, eo, none⟩) 1 cp] w fun e w' => e = .returned (.int .i64 0) ∧
   (∃ Ls', Jop w' lw d s g q0 j base (putQ q b l) Ls' ns lo G Y D V U n k Tv xs num giv dn L S P ∧ 0 < Ls'.length ∧ Ls'.length ≤ Ls.length + 1) ∧ FsR none w w' ∧ Kp base w w' := by
 refine (swrite_x w (cp := cp) h.so.fr h.so.su e0 e1 hb hl h0 h1 hroom).mono ?_
 rintro e w' ⟨v, rfl, a4, kc, hsu⟩
 have a5 := fs_write h.so.su.buf kc
 obtain ⟨r1, r2⟩ := h.ro.keepS a5 (fun _ _ _ _ => by simp)
 obtain ⟨sv0, m0, xs0, v1, -, -⟩ := h.so.su.vw
 have hq : w'.cell? ⟨d.Q, 4, none⟩ = w.cell? ⟨d.Q, 4, none⟩ := by
  have v2 := kc.heap v1 (by
   intro hm
   rw [List.mem_singleton] at hm
   rw [hm] at v1
   exact map_cells h.so.su.buf.2 v1 rfl)
  rw [cell_is v2 4 rfl, cell_is v1 4 rfl]
 have a2 : 0 < (putL Ls b v).length := by cases Ls <;> simp [putL]; split <;> simp
 have a3 := putL_len Ls b v
 exact ⟨rfl, ⟨_, ⟨h.so.step a4 hsu, r1, fun sv rv g' hs hr => h.dj sv rv g' (by rw [← hq]; exact hs) (by rw [← r2]; exact hr)⟩, a2, a3⟩, a5, Kp.of_ow a4 (Nat.le_refl _)⟩
theorem jwrite_r (w : World) {E eo cp : Nat} {dv : Value} {b : Int} {l : List UInt8} (h : Jop w lw d s g q0 j base q Ls ns lo G Y D V U n k Tv xs num giv dn L S P) (hn : n ≤ 100000) (hP : P.length < 16) (hb0 : 0 ≤ b) (hb1 : b < 258)
  (e0 : w.cell? ⟨E, eo, none⟩ = some (.int .i64 b)) (e1 : w.cell? ⟨E, eo + 1, none⟩ = some dv) (hd : DatX w dv l) :
  Calls Tryz.prog 41 #[.pointer (some ⟨G, 0, none⟩), .int .i64 (n + 1 : Nat), .slice (some ⟨E, eo, none⟩) 1 cp] w fun e w' => e = .returned (.int .i64 0) ∧ Jop w' lw d s g q0 j base q Ls ns lo G Y D V U n k Tv xs num giv dn L S (bufPut P b l) ∧ Kp lo w w' := by
 refine (rmwrite w (cp := cp) h.ro hn hP hb0 hb1 e0 e1 hd).mono ?_
 rintro e w' ⟨rfl, a1, a2, a3⟩
 obtain ⟨s1, s2⟩ := h.so.keepX a2 (fun _ _ _ _ => by simp)
 exact ⟨rfl, ⟨s1, a1, fun sv rv g' hs hr => h.dj sv rv g' (by rw [← s2]; exact hs) (by rw [← a3]; exact hr)⟩, a2.kp⟩
end
def SameQ (q : Int → List UInt8) (P : List (Int × List UInt8)) (L : List (Int × Int × List UInt8)) (t : Int) : Prop := ∀ b, 0 ≤ b → b < 258 → viewG P L t b = q b
theorem verG_le {l : List (Int × Int × List UInt8)} {a t : Int} (ha : a ≤ t) (h : ∀ x ∈ l, x.2.1 ≤ a) (b : Int) : verG l b t = verG l b a := by
 rw [verG_fold, verG_fold]
 have H : ∀ (l : List (Int × Int × List UInt8)) (r : List UInt8 × Int), (∀ x ∈ l, x.2.1 ≤ a) → l.foldl (verF b t) r = l.foldl (verF b a) r := by
  intro l
  induction l with
  | nil => intro r _; rfl
  | cons x l ih =>
   intro r hx
   rw [List.foldl_cons, List.foldl_cons, ih _ (fun y hy => hx y (List.mem_cons_of_mem _ hy))]
   have hx0 := hx x List.mem_cons_self
   have e : verF b t r x = verF b a r x := by
    unfold verF
    by_cases e1 : x.1 = b
    ·rw [if_pos ⟨e1, by omega⟩, if_pos ⟨e1, hx0⟩]
    ·rw [if_neg (fun hh => e1 hh.1), if_neg (fun hh => e1 hh.1)]
   rw [e]
 exact H l _ h
theorem SameQ.merge {q : Int → List UInt8} {P : List (Int × List UInt8)} {L : List (Int × Int × List UInt8)} {t t' : Int} (h : SameQ q P L t) (hL : SortV L) (hP : RiseL P) (ht : t ≤ t') (ho : ∀ x ∈ L, x.2.1 ≤ t) : SameQ q [] (mergeR t' L P) t' := fun c h0 h1 => by
 have e := h c h0 h1
 unfold viewG at e ⊢
 rw [bufG_nil, Option.getD_none, verG_merge hL hP (Int.le_refl _), verG_le ht ho]
 exact e
theorem merge_old {t dn : Int} {L : List (Int × Int × List UInt8)} {P : List (Int × List UInt8)} (ho : ∀ x ∈ L, x.2.1 ≤ dn) (h : dn ≤ t) : ∀ x ∈ mergeR t L P, x.2.1 ≤ t := fun x hx => by
 rcases mergeR_mem t L P x hx with e | ⟨p, -, rfl⟩
 ·exact Int.le_trans (ho x e) h
 ·exact Int.le_refl _
theorem RiseL.put {P : List (Int × List UInt8)} (h : RiseL P) (b : Int) (l : List UInt8) : RiseL (bufPut P b l) := (bufA_rise b l false P h).1
theorem put_keys {P : List (Int × List UInt8)} (h : ∀ p ∈ P, 0 ≤ p.1 ∧ p.1 < 258) {b : Int} (h0 : 0 ≤ b) (h1 : b < 258) (l : List UInt8) : ∀ p ∈ bufPut P b l, 0 ≤ p.1 ∧ p.1 < 258 := fun p hp => by
 rcases bufA_mem b l false P p hp with e | rfl
 ·exact h p e
 ·exact ⟨h0, h1⟩
section
variable {lw base j ns lo G Y D V U n k m : Nat} {d : Ids} {s : Gs} {g : Gd} {q0 q : Int → List UInt8} {Ls : List (Int × Value)} {Tv : Value} {xs : List Value} {num giv dn : Int} {L : List (Int × Int × List UInt8)} {S : List (Int × Int)} {P : List (Int × List UInt8)}
theorem jcommit_s (w : World) (h : Jop w lw d s g q0 j base q Ls ns lo G Y D V U n k Tv xs num giv dn L S P) (h0 : 0 < Ls.length) (hm : Ls.length ≤ m) (hm16 : m ≤ 16) (hn : ns ≤ 16) (hj : j ≤ 100000) :
  Calls Tryz.prog 19 #[.pointer (some ⟨d.P, 0, none⟩), .int .i64 (s.bl + 1)] w fun e w' => e = .returned (.int .i64 0) ∧ Swt w' lw d s g q0 j q m ∧ RfO w' lo G Y D V U n k Tv xs num giv dn L S P ∧ Kp lw w w' := by
 refine (fst_commit w h.so h0 hm hm16 hn hj).mono ?_
 rintro e w' ⟨rfl, a1, a2, a3⟩
 exact ⟨rfl, a1, (h.ro.keepS a2 (fun _ _ _ _ => by simp)).1, a3⟩
theorem jcommit_r (w : World) (hs : Swt w lw d s g q0 j q m) (h : RfO w lo G Y D V U n k Tv xs num giv dn L S P) (hn : n ≤ 100000) (hN : L.length ≤ 100000) (h0 : 0 < P.length) (h16 : P.length ≤ 16) (hk : ∀ p ∈ P, 0 ≤ p.1 ∧ p.1 < 258) (hol : ∀ x ∈ L, x.2.1 ≤ dn) (hg0 : 0 ≤ giv) (hg1 : giv ≤ 1000000) :
  Calls Tryz.prog 42 #[.pointer (some ⟨G, 0, none⟩), .int .i64 (n + 1 : Nat)] w fun e w' => e = .returned (.int .i64 0) ∧ Swt w' lw d s g q0 j q m ∧ RfW w' lo G Y D V U n Tv xs num (giv + 1) dn L P ∧ Kp lo w w' := by
 refine (rfcommit w h hn hN h0 h16 hk hol hg0 hg1).mono ?_
 rintro e w' ⟨rfl, a1, a2⟩
 exact ⟨rfl, hs.keepX a2, a1, a2.kp⟩
theorem jcheck (w : World) (hs : Swt w lw d s g q0 j q m) (h : RfW w lo G Y D V U n Tv xs num giv dn L P) (hj : j ≤ 1900) :
  Calls Tryz.prog 20 #[.pointer (some ⟨d.P, 0, none⟩)] w fun e w' => e = .returned (.int .i64 0) ∧ (∃ g', Swt w' lw d s g' q0 (j + 1) q m ∧ g'.pos = 0) ∧ RfW w' lo G Y D V U n Tv xs num giv dn L P ∧ Kp lw w w' := by
 refine (fst_check w hs hj).mono ?_
 rintro e w' ⟨rfl, a1, a2, a3⟩
 exact ⟨rfl, a1, h.keepS a2, a3⟩
theorem jflush_s (w : World) (hs : Swt w lw d s g q0 j q m) (h : RfW w lo G Y D V U n Tv xs num giv dn L P) (hj : j ≤ 2000) (hm : m ≤ 16) (hpos0 : g.pos = 0) :
  Calls Tryz.prog 21 #[.pointer (some ⟨d.P, 0, none⟩)] w fun e w' => e = .returned (.int .i64 0) ∧ (∃ s' g', Srs w' lw d s' g' q (j + 1) ∧ s'.bl = s.bl + 1) ∧ RfW w' lo G Y D V U n Tv xs num giv dn L P ∧ Kp lw w w' := by
 refine (fst_flush w hs hj hm hpos0).mono ?_
 rintro e w' ⟨rfl, a1, a2, a3⟩
 exact ⟨rfl, a1, h.keepS a2, a3⟩
theorem jflush_r (w : World) (hs : Srs w lw d s g q j) (h : RfW w lo G Y D V U n Tv xs num giv dn L P) (hn : n ≤ 100000) (hN : L.length ≤ 100000) (h0 : 0 < P.length) (h16 : P.length ≤ 16) (ht0 : dn < giv) (ht1 : giv ≤ 1099511627776) (hr : RiseL P) (hk : ∀ p ∈ P, 0 ≤ p.1 ∧ p.1 < 258) (hn0 : 0 ≤ num) (hn1 : num ≤ 1000000) :
  Calls Tryz.prog 43 #[.pointer (some ⟨G, 0, none⟩)] w fun e w' => e = .returned (.int .i64 0) ∧ Srs w' lw d s g q j ∧ RfR w' lo G Y (n + 1) Tv (xs ++ [.pointer (some ⟨D, 0, none⟩)]) (num + 1) giv giv (mergeR giv L P) ∧ Kp lo w w' := by
 refine (rfflush w h hn hN h0 h16 ht0 ht1 hr hk hn0 hn1).mono ?_
 rintro e w' ⟨rfl, a1, a2⟩
 exact ⟨rfl, hs.keepX a2, a1, a2.kp⟩
theorem jbegin_s (w : World) (hs : Srs w lw d s g q j) (h : RfR w lo G Y n Tv xs num giv dn L) (hj : j ≤ 100000) :
  Calls Tryz.prog 16 #[.pointer (some ⟨d.P, 0, none⟩)] w fun e w' => e = .returned (.tuple #[.int .i64 (s.bl + 1), .int .i64 0]) ∧ (∃ d', (d'.P = d.P ∧ d'.N = d.N) ∧ Sop w' lw d' s g q j w.heap.size q [] 0) ∧ RfR w' lo G Y n Tv xs num giv dn L ∧ Kp lw w w' := by
 refine (fst_begin w hs hj).mono ?_
 rintro e w' ⟨rfl, d', a0, a1, a2, a3⟩
 exact ⟨rfl, ⟨d', a0, a1⟩, h.keepS a2, a3⟩
theorem jbegin_r (w : World) (hs : Sop w lw d s g q0 j base q Ls ns) (h : RfR w lo G Y n Tv xs num giv dn L) (h0 : 0 ≤ dn) (h1 : dn ≤ 1099511627776) (hn : n ≤ 100000) :
  Calls Tryz.prog 36 #[.pointer (some ⟨G, 0, none⟩)] w fun e w' => e = .returned (.tuple #[.int .i64 (n + 1 : Nat), .int .i64 0]) ∧ (∃ D V U Tv', Jop w' lw d s g q0 j base q Ls ns lo G Y D V U n 0 Tv' xs num giv dn L [] []) ∧ Kp lo w w' := by
 refine (rfbegin w h h0 h1 hn).mono ?_
 rintro e w' ⟨rfl, D, V, U, Tv', a1, a2, a3⟩
 obtain ⟨s1, s2⟩ := hs.keepX a3 (fun _ _ _ _ => by simp)
 refine ⟨rfl, ⟨D, V, U, Tv', s1, a1, fun sv rv g' _ hr _ hrg => ?_⟩, a3.kp⟩
 rw [a2] at hr
 cases hr
 cases hrg
end
def rnd (i : Int) : Int := i % 1290
theorem rnd_lt (i : Int) : 0 ≤ rnd i ∧ rnd i < 1290 := by unfold rnd; omega
set_option maxRecDepth 100000 in
theorem round_ok (w : World) (i : Int) : Calls Tryz.prog 10 #[.int .i64 i, .int .i64 1290] w fun e w' => e = .returned (.int .i64 (rnd i)) ∧ w = w' := by
 have e : Hid (rnd i = if i.tmod 1290 < 0 then i.tmod 1290 + 1290 else i.tmod 1290) := Lib.hid (by
  unfold rnd
  have e : i.tmod 1290 = i % 1290 - if 0 ≤ i ∨ (1290 : Int) ∣ i then (0 : Int) else 1290 := by
   rw [Int.tmod_eq_emod]
   split <;> rfl
  by_cases h : 0 ≤ i ∨ (1290 : Int) ∣ i
  ·rw [if_pos h] at e
   rw [e, if_neg (by omega)]
   omega
  ·rw [if_neg h] at e
   rw [e, if_pos (by omega)]
   omega)
 have hb : -1290 ≤ i.tmod 1290 ∧ i.tmod 1290 < 1290 := by
  have e1 := e.out
  have e2 := rnd_lt i
  by_cases h : i.tmod 1290 < 0
  ·rw [if_pos h] at e1
   clear e
   generalize i.tmod 1290 = z at *
   generalize rnd i = y at *
   exact ⟨by omega, by omega⟩
  ·rw [if_neg h] at e1
   clear e
   generalize i.tmod 1290 = z at *
   generalize rnd i = y at *
   exact ⟨by omega, by omega⟩
 go_enter Tryz.func10, Tryz.ntmps10
 by_cases hn : i.tmod 1290 < 0
 ·have e2 : Hid (i.tmod 1290 + 1290 = rnd i) := Lib.hid (by rw [e.out, if_pos hn])
  go_wp2_with fail
  go_ret
  exact ⟨by rw [e2.out]; rfl, rfl⟩
 ·have e2 : Hid (i.tmod 1290 = rnd i) := Lib.hid (by rw [e.out, if_neg hn])
  go_wp2_with fail
  go_ret
  exact ⟨by rw [e2.out]; rfl, rfl⟩
set_option maxRecDepth 100000 in
set_option maxHeartbeats 1000000 in
theorem alike_same (w : World) {a b ca cb m oa ob : Nat} {l : List UInt8} (hl : l.length = m) (hm : m ≤ 1000000)
  (ha : ∀ j (h : j < l.length), w.cell? ⟨a, oa + j, none⟩ = some (.int .u8 l[j].toNat)) (hb : ∀ j (h : j < l.length), w.cell? ⟨b, ob + j, none⟩ = some (.int .u8 l[j].toNat)) :
  Calls Tryz.prog 40 #[.slice (some ⟨a, oa, none⟩) m ca, .slice (some ⟨b, ob, none⟩) m cb] w fun e w' => e = .returned (.bool true) ∧ Chg [] w w' := by
 subst hl
 go_enter Tryz.func40, Tryz.ntmps40
 go_wp2_with fail
 go_loopw [5] (fun i wr => ∃ (k n : Nat), k ≤ l.length ∧ i = .int .i64 k ∧ wr = w.drewN n) (fun i _ => l.length - (intOf i).toNat)
 case atStart => exact ⟨0, 0, by omega, rfl, rfl⟩
 case round =>
  obtain ⟨k, n, hk, rfl, rfl⟩ := hrel
  by_cases hlt : k < l.length
  ·have xa : (w.drewN n).cell? ⟨a, oa + k, none⟩ = some (.int .u8 l[k].toNat) := ha k hlt
   have xb : (w.drewN n).cell? ⟨b, ob + k, none⟩ = some (.int .u8 l[k].toNat) := hb k hlt
   go_wp2_with fail
   go_quiet (fail)
   go_wp2_with fail
   go_roundw
   case rel => exact ⟨k + 1, n + nq, by omega, by go_num, rfl⟩
   case measure => simp [intOf]; omega
  ·go_wp2_with fail
   all_goals
    go_ret
    exact ⟨rfl, (Chg.refl _ _).drewN _⟩
theorem Srs.new {w : World} {lw : Nat} {d : Ids} {ops : Int} (h : Sto w lw d (s00 lw) (g00 lw ops)) (ho : 0 ≤ ops ∧ ops ≤ 2) (hl : lw ≤ w.heap.size) : Srs w lw d (s00 lw) (g00 lw ops) (fun _ => zeroB) 0 :=
 have r := Rst.new h ho hl
 ⟨r.sto, r.pl, r.lb, ⟨none, rfl, World.ownsRow_nil _ _ _ _⟩, hl⟩
set_option maxRecDepth 100000 in
theorem rfmap_new (w : World) : Calls Tryz.prog 91 #[.int .i64 258] w fun e w' => ∃ Y, e = .returned (.tuple #[.pointer (some ⟨Y, 0, none⟩), .int .i64 0]) ∧ Chg [] w w' ∧ w.heap.size ≤ Y ∧ RyAt w' Y [] 0 := by
 go_enter Tryz.func91, Tryz.ntmps91
 go_wp2_with fail
 go_ret2
 exact ⟨_, rfl, Chg.alloc _ _, Nat.le_refl _, _, heap_new w _, none, 0, rfl, Nat.le_refl _, fun i h => absurd h (Nat.not_lt_zero _)⟩
set_option maxRecDepth 100000 in
theorem rf_new (w : World) : Calls Tryz.prog 34 #[.int .i64 258, .int .i64 0] w fun e w' => ∃ G Y, e = .returned (.tuple #[.pointer (some ⟨G, 0, none⟩), .int .i64 0]) ∧ Chg [] w w' ∧ RfR w' w.heap.size G Y 0 (.slice none 0 0) [] 0 0 0 [] := by
 go_enter Tryz.func34, Tryz.ntmps34
 go_wp2_with fail
 refine (rfmap_new w).mono ?_
 rintro e w1 ⟨Y, rfl, k1, hY, hy⟩
 go_wp2_with fail
 go_ret2
 refine ⟨_, Y, rfl, k1.then_alloc _, ⟨⟨_, _, heap_new w1 _, ⟨none, 0, rfl⟩, ⟨none, 0, rfl⟩⟩, World.ownsRow_nil _ _ _ _, hy.keep (Chg.alloc _ _), k1.size, hY, (k1.then_alloc _).size⟩⟩
def Fl (w : World) (pa : Option Addr) (l : List Nat) : Prop := l = [] ∨ ∃ b o, pa = some ⟨b, o, none⟩ ∧ ∀ j (h : j < l.length), w.cell? ⟨b, o + j, none⟩ = some (.float .f64 l[j])
theorem Fl.keep {w w' : World} {pa : Option Addr} {l : List Nat} (h : Fl w pa l) (hc : Chg [] w w') : Fl w' pa l := by
 rcases h with h | ⟨b, o, e, h⟩
 ·exact Or.inl h
 ·exact Or.inr ⟨b, o, e, fun j hj => hc.cell (h j hj) (by simp)⟩
theorem de_take (l : List UInt8) (j : Nat) (h : j < l.length) : de 0 (l.take (j + 1)) = de 0 (l.take j) * 256 + l[j].toNat := by
 have key : ∀ (a : List UInt8) (v : Nat) (b : UInt8), de v (a ++ [b]) = de v a * 256 + b.toNat := by
  intro a
  induction a with
  | nil => intro v b; rfl
  | cons x a ih => intro v b; exact ih _ _
 rw [List.take_succ_eq_append_getElem h, key]
theorem or_byte (v c : Nat) (hv : v < 72057594037927936) (hc : c < 256) : bits .or .u64 ((v : Int) * 256) (IntKind.u64.wrap (c : Int)) = ((v * 256 + c : Nat) : Int) := by
 have e1 : ((v : Int) * 256) = ((v * 256 : Nat) : Int) := by omega
 have e2 : IntKind.u64.wrap (c : Int) = (c : Int) := by rw [IntKind.wrap_u64]; omega
 rw [e1, e2, u64_or_nat _ _ (by omega) (by omega)]
 have := Nat.shiftLeft_add_eq_or_of_lt (b := c) (i := 8) hc v
 rw [Nat.shiftLeft_eq] at this
 rw [this]
def decR (l : List UInt8) : Value := match decB l with | some x => .tuple #[.float .f64 x, .int .i64 0] | none => .tuple #[.float .f64 0, .int .i64 13]
set_option maxRecDepth 100000 in
set_option maxHeartbeats 1000000 in
theorem decode_any (w : World) {pa : Option Addr} {m c : Nat} {l : List UInt8} (hl : l.length = m) (hm : m ≤ 1000000) (hB : Bs w pa l) : Calls Tryz.prog 112 #[.slice pa m c] w fun e w' =>
  e = .returned (decR l) ∧ w = w' := by
 by_cases h8 : m = 8
 ·subst h8
  rcases hB with h | ⟨b, o, rfl, hb, hc⟩
  ·rw [h] at hl; simp at hl
  go_enter Tryz.func112, Tryz.ntmps112
  go_wp2_with fail
  go_loop [4, 13] (fun v i => ∃ j : Nat, j ≤ 8 ∧ i = .int .i64 j ∧ v = .int .u64 (de 0 (l.take j))) (fun _ i => 8 - (intOf i).toNat)
  case atStart => exact ⟨0, by omega, rfl, rfl⟩
  case round =>
   obtain ⟨j, hj, rfl, rfl⟩ := hrel
   by_cases hlt : j < 8
   ·have cj := hc j (by omega)
    have hde := de_lt (l.take j) 0
    have hv : de 0 (l.take j) < 72057594037927936 := by
     rw [List.length_take, Nat.min_eq_left (by omega)] at hde
     have := Nat.pow_le_pow_right (n := 256) (by decide) (show j ≤ 7 by omega)
     have e7 : (256 : Nat) ^ 7 = 72057594037927936 := by decide
     omega
    have hdt := de_take l j (by omega)
    generalize de 0 (l.take j) = v at *
    go_wp2_with fail
    refine ⟨⟨j + 1, by omega, by simp, ?_⟩, by simp [intOf]; omega⟩
    rw [or_byte v _ hv (UInt8.toNat_lt _), hdt]
   ·obtain rfl : j = 8 := by omega
    rw [List.take_of_length_le (by omega)]
    have h64 := de8_lt hl
    go_wp2_with fail
    refine (fromBits_any _ w).mono ?_
    rintro e w1 ⟨rfl, rfl⟩
    go_wp2_with fail
    refine (fbits_any _ w).mono ?_
    rintro e w1 ⟨rfl, rfl⟩
    have hcc : canB (canB (de 0 l)) = canB (de 0 l) := by
     unfold canB
     split <;> rename_i h
     ·rfl
     ·first | rfl | rw [if_neg h]
    rw [hcc]
    by_cases hq : canB (de 0 l) = de 0 l
    ·have hR : decR l = .tuple #[.float .f64 (de 0 l), .int .i64 0] := by
      unfold decR decB
      rw [if_pos ⟨hl, hq⟩]
     have hq2 : ((canB (de 0 l) : Nat) : Int) = (de 0 l : Nat) := by rw [hq]
     generalize canB (de 0 l) = y at *
     go_wp2_with fail
     go_ret2
     exact ⟨by rw [hR]; rfl, rfl⟩
    ·have hR : decR l = .tuple #[.float .f64 0, .int .i64 13] := by
      unfold decR decB
      rw [if_neg (fun h => hq h.2)]
     have hq2 : ¬ ((canB (de 0 l) : Nat) : Int) = (de 0 l : Nat) := by omega
     generalize canB (de 0 l) = y at *
     go_wp2_with fail
     go_ret2
     exact ⟨by rw [hR]; rfl, rfl⟩
 ·have hm8 : ¬ (m : Int) = 8 := by omega
  have hd : decR l = .tuple #[.float .f64 0, .int .i64 13] := by unfold decR decB; rw [if_neg (by omega)]
  go_enter Tryz.func112, Tryz.ntmps112
  go_wp2_with fail
  go_ret2
  exact ⟨by rw [hd]; rfl, rfl⟩
theorem ty22 : Tryz.prog.underlying 38 = some (.slice 33) := by kernel_rfl
theorem inf42 : (Tryz.prog.info? 33).map (fun i => (i.zero, i.size, i.bytes)) = some (some (.float .f64 0), 1, 8) := by kernel_rfl
def flCells (l : List Nat) : List Value := l.map fun x => .float .f64 x
theorem flCells_one (l : List Nat) : ∀ u ∈ flCells l, u.oneCell' = true := by
 intro u hu
 simp only [flCells, List.mem_map] at hu
 obtain ⟨x, _, rfl⟩ := hu
 rfl
def UnR (w : World) (l : List UInt8) (e : Ending) (w' : World) : Prop :=
 (∃ v xs, unpackB l = some xs ∧ e = .returned (.tuple #[v, .int .i64 0]) ∧ Chg [] w w' ∧ w'.ownsRow w.heap.size 33 1 v 5 (flCells xs)) ∨ (unpackB l = none ∧ e = .returned (.tuple #[.slice none 0 0, .int .i64 13]) ∧ Chg [] w w')
set_option maxRecDepth 100000 in
set_option maxHeartbeats 1000000 in
theorem unpack_forty (w : World) {b o c : Nat} {l : List UInt8} (hl : l.length = 40) (hc : 40 ≤ c) (hB : Bs w (some ⟨b, o, none⟩) l) : Calls Tryz.prog 52 #[.slice (some ⟨b, o, none⟩) 40 c] w (UnR w l) := by
 go_enter Tryz.func52, Tryz.ntmps52
 go_wp2_with fail
 go_loopw [2, 4] (fun v i wr => ∃ j : Nat, j ≤ 5 ∧ i = .int .i64 (8 * j : Nat) ∧ ∃ xs, unpackN j l = some xs ∧ xs.length = j ∧ Chg [] w wr ∧ wr.ownsRow w.heap.size 33 1 v j (flCells xs)) (fun _ i _ => 40 - (intOf i).toNat)
 case atStart => exact ⟨0, by omega, rfl, [], rfl, rfl, Chg.refl _ _, World.ownsRow_nil _ _ _ _⟩
 case round =>
  obtain ⟨j, hj, rfl, xs, hu, hxl, kc, ho⟩ := hrel
  by_cases hlt : j < 5
  ·have hB1 := (hB.chg kc).sub (8 * j) 8
   have hs0 := kc.size
   have hsl : ((l.drop (8 * j)).take 8).length = 8 := by simp; omega
   have HD := Lib.hid (decode_any wr (c := c - 8 * j) hsl (by decide) hB1)
   have hsn := unpackN_snoc j l xs hu
   have f1 : ((8 * j : Nat) : Int) < 40 := by omega
   have HO := Lib.hid ho
   clear hB hB1 ho
   go_wp2_with fail
   refine HD.out.mono ?_
   rintro e w1 ⟨rfl, rfl⟩
   clear HD
   generalize (l.drop (8 * j)).take 8 = sub at *
   cases hd : decB sub with
   | none =>
    rw [hd] at hsn
    have hR : decR sub = .tuple #[.float .f64 0, .int .i64 13] := by unfold decR; rw [hd]
    rw [hR]
    have hno : unpackB l = none := by
     unfold unpackB
     rw [if_pos hl]
     have := unpackN_no (j + 1) (4 - j) l hsn
     rwa [show j + 1 + (4 - j) = 5 by omega] at this
    go_wp2_with fail
    go_ret2
    exact Or.inr ⟨hno, rfl, kc⟩
   | some x =>
    rw [hd] at hsn
    have hR : decR sub = .tuple #[.float .f64 x, .int .i64 0] := by unfold decR; rw [hd]
    rw [hR]
    go_wp2_with (at_builtin; refine wpList_append_lit rfl (.tmp 27) (.tmp 29) 38 33 rfl ty22 inf42 rfl (by decide) w.heap.size wr (flCells [x]) 1 rfl _ j (flCells xs) rfl HO.out (by omega) (by decide) hs0 (k := 0) rfl (flCells_one _) rfl 1 rfl ?_; intro v' w' hap)
    go_roundw
    case rel => exact ⟨j + 1, by omega, by congr 1, xs ++ [x], hsn, by simp [hxl], Chg.of_below (kc.below0.trans hap.2.1), by have := hap.1; unfold flCells at *; simpa using this⟩
    case measure => simp [intOf]; omega
  ·obtain rfl : j = 5 := by omega
   go_wp2_with fail
   go_ret2
   refine Or.inl ⟨_, xs, ?_, rfl, kc, ho⟩
   unfold unpackB
   rw [if_pos hl, hu]
theorem be8_at (v j : Nat) (h : j < 8) : Lib.byteCells ((be8 v).take (j + 1)) = Lib.byteCells ((be8 v).take j) ++ [.int .u8 ((v / 256 ^ (7 - j) % 256 : Nat) : Int)] := by
 obtain rfl | rfl | rfl | rfl | rfl | rfl | rfl | rfl : j = 0 ∨ j = 1 ∨ j = 2 ∨ j = 3 ∨ j = 4 ∨ j = 5 ∨ j = 6 ∨ j = 7 := by omega
 all_goals simp [be8, Lib.byteCells]
set_option maxRecDepth 100000 in
set_option maxHeartbeats 1000000 in
theorem rencode_any (w : World) (x : Nat) (_hx : canB x < 18446744073709551616) : Calls Tryz.prog 65 #[.float .f64 x] w fun e w' => ∃ g c', e = .returned (.slice (some ⟨g, 0, none⟩) 8 c') ∧ Chg [] w w' ∧ Bs w' (some ⟨g, 0, none⟩) (encB x) ∧ w.heap.size ≤ g := by
 have hE : encB x = be8 (canB x) := rfl
 rw [hE]
 generalize hv : canB x = v at *
 go_enter Tryz.func65, Tryz.ntmps65
 go_wp2_with fail
 refine (rbits_any x w).mono ?_
 rintro e w1 ⟨rfl, rfl⟩
 rw [hv]
 go_wp2_with fail
 go_loopw [4, 5] (fun u i wr => ∃ j : Nat, j ≤ 8 ∧ i = .int .i64 (56 - 8 * (j : Int)) ∧ Chg [] w wr ∧ wr.ownsRow w.heap.size 5 1 u j (Lib.byteCells ((be8 v).take j))) (fun _ i _ => (intOf i + 8).toNat)
 case atStart => exact ⟨0, by omega, rfl, Chg.refl _ _, World.ownsRow_nil _ _ _ _⟩
 case round =>
  obtain ⟨j, hj, rfl, kc, ho⟩ := hrel
  by_cases hlt : j < 8
  ·have f1 : ¬ (56 : Int) - 8 * (j : Int) < 0 := by omega
   have f2 : (0 : Int) ≤ 56 - 8 * (j : Int) := by omega
   have hs0 := kc.size
   have HO := Lib.hid ho
   have e : (v : Int) / 2 ^ (56 - 8 * j) % 256 = ((v / 256 ^ (7 - j) % 256 : Nat) : Int) := by
    have h2 : (2 : Int) ^ (56 - 8 * j) = ((256 ^ (7 - j) : Nat) : Int) := by
     rw [show 56 - 8 * j = 8 * (7 - j) by omega, Int.pow_mul, Int.natCast_pow]
     rfl
    rw [h2]
    rfl
   have hat := be8_at v j hlt
   have f3 : (56 : Int) - 8 * (j : Int) - 8 = 56 - 8 * ((j + 1 : Nat) : Int) := by omega
   clear ho
   go_wp2_with (at_builtin; refine wpList_append_lit rfl (.tmp 12) (.tmp 17) 47 5 rfl ty23 inf5c rfl (by decide) w.heap.size wr [.int .u8 ((v / 256 ^ (7 - j) % 256 : Nat) : Int)] 1 rfl _ j (Lib.byteCells ((be8 v).take j)) rfl HO.out (by omega) (by decide) hs0 (k := 0) (by first | rfl | rw [e]) (by intro u hu; simp at hu; subst hu; rfl) rfl 1 rfl ?_; intro v' w' hap)
   go_roundw
   case rel => exact ⟨j + 1, by omega, by simp, Chg.of_below (kc.below0.trans hap.2.1), by rw [hat]; exact hap.1⟩
   case measure => simp [intOf]; omega
  ·obtain rfl : j = 8 := by omega
   go_wp2_with fail
   go_ret
   rcases ho.2 with ⟨e, h0⟩ | ⟨g, cap, cur, e, hA, -⟩
   ·omega
   ·rw [e] at ho
    refine ⟨g, cap, by rw [← e]; rfl, kc, ?_, hA⟩
    exact Bs.own ho
set_option maxRecDepth 100000 in
set_option maxHeartbeats 1000000 in
theorem rdecode_any (w : World) {pa : Option Addr} {m c : Nat} {l : List UInt8} (hl : l.length = m) (hm : m ≤ 1000000) (hB : Bs w pa l) : Calls Tryz.prog 98 #[.slice pa m c] w fun e w' =>
  e = .returned (decR l) ∧ w = w' := by
 by_cases h8 : m = 8
 ·subst h8
  rcases hB with h | ⟨b, o, rfl, hb, hc⟩
  ·rw [h] at hl; simp at hl
  go_enter Tryz.func98, Tryz.ntmps98
  go_wp2_with fail
  go_loop [4, 5] (fun v i => ∃ j : Nat, j ≤ 8 ∧ i = .int .i64 j ∧ v = .int .u64 (de 0 (l.take j))) (fun _ i => 8 - (intOf i).toNat)
  case atStart => exact ⟨0, by omega, rfl, rfl⟩
  case round =>
   obtain ⟨j, hj, rfl, rfl⟩ := hrel
   by_cases hlt : j < 8
   ·have cj := hc j (by omega)
    have hde := de_lt (l.take j) 0
    have hv : de 0 (l.take j) < 72057594037927936 := by
     rw [List.length_take, Nat.min_eq_left (by omega)] at hde
     have := Nat.pow_le_pow_right (n := 256) (by decide) (show j ≤ 7 by omega)
     have e7 : (256 : Nat) ^ 7 = 72057594037927936 := by decide
     omega
    have hdt := de_take l j (by omega)
    generalize de 0 (l.take j) = v at *
    go_wp2_with fail
    refine ⟨⟨j + 1, by omega, by simp, ?_⟩, by simp [intOf]; omega⟩
    rw [or_byte v _ hv (UInt8.toNat_lt _), hdt]
   ·obtain rfl : j = 8 := by omega
    rw [List.take_of_length_le (by omega)]
    have h64 := de8_lt hl
    by_cases hq : canB (de 0 l) = de 0 l
    ·have hR : decR l = .tuple #[.float .f64 (de 0 l), .int .i64 0] := by
      unfold decR decB
      rw [if_pos ⟨hl, hq⟩]
     have HF := Lib.hid (rfrom_any (de 0 l) w h64)
     rw [hq] at HF
     by_cases hn : 9218868437227405312 < bits .andNot .u64 ((de 0 l : Nat) : Int) 9223372036854775808
     ·have hv0 := can_nan h64 hn
      rw [hq] at hv0
      have hv : (((de 0 l : Nat) : Int) != 9221120237041090560) = false := by
       have h : ((de 0 l : Nat) : Int) = 9221120237041090560 := congrArg Int.ofNat hv0
       rw [h]
       decide
      clear hv0 hq
      generalize de 0 l = y at *
      go_wp2_with fail
      refine HF.out.mono ?_
      rintro e w1 ⟨rfl, rfl⟩
      go_wp2_with fail
      go_ret2
      exact ⟨by rw [hR]; rfl, rfl⟩
     ·generalize de 0 l = y at *
      go_wp2_with fail
      refine HF.out.mono ?_
      rintro e w1 ⟨rfl, rfl⟩
      go_wp2_with fail
      go_ret2
      exact ⟨by rw [hR]; rfl, rfl⟩
    ·have hR : decR l = .tuple #[.float .f64 0, .int .i64 13] := by
      unfold decR decB
      rw [if_neg (fun h => hq h.2)]
     have hn : 9218868437227405312 < bits .andNot .u64 ((de 0 l : Nat) : Int) 9223372036854775808 := by
      by_cases h : 9218868437227405312 < bits .andNot .u64 ((de 0 l : Nat) : Int) 9223372036854775808
      ·exact h
      ·exact absurd (can_not h64 (by omega)) hq
     have hv : ¬ ((de 0 l : Nat) : Int) = 9221120237041090560 := by
      intro h
      apply hq
      rw [can_nan h64 hn]
      unfold nanB
      omega
     generalize de 0 l = y at *
     go_wp2_with fail
     go_ret2
     first | exact ⟨by rw [hR]; rfl, rfl⟩ | exact ⟨rfl, rfl⟩
 ·have hm8 : ¬ (m : Int) = 8 := by omega
  have hd : decR l = .tuple #[.float .f64 0, .int .i64 13] := by unfold decR decB; rw [if_neg (by omega)]
  go_enter Tryz.func98, Tryz.ntmps98
  go_wp2_with fail
  go_ret2
  exact ⟨by rw [hd]; rfl, rfl⟩
set_option maxRecDepth 100000 in
set_option maxHeartbeats 1000000 in
theorem rpack_any (w : World) {pa : Option Addr} {m c : Nat} {l : List Nat} (hl : l.length = m) (hm : m ≤ 1000000) (hF : Fl w pa l) (hx : ∀ x ∈ l, canB x < 18446744073709551616) : Calls Tryz.prog 24 #[.slice pa m c] w fun e w' =>
  ∃ v, e = .returned (.tuple #[v, .int .i64 (if m = 5 then 0 else 3)]) ∧ Chg [] w w' ∧ (m ≠ 5 → v = .slice none 0 0) ∧ (m = 5 → ∃ g c', v = .slice (some ⟨g, 0, none⟩) 40 c' ∧ Bs w' (some ⟨g, 0, none⟩) (packB l) ∧ w.heap.size ≤ g ∧ 40 ≤ c' ∧ Bt w' g) := by
 by_cases h5 : m = 5
 ·subst h5
  go_enter Tryz.func24, Tryz.ntmps24
  go_wp2_with fail
  go_loopw [4, 5] (fun v i wr => ∃ j : Nat, j ≤ 5 ∧ i = .int .i64 j ∧ Chg [] w wr ∧ wr.ownsRow w.heap.size 5 1 v (8 * j) (Lib.byteCells (packB (l.take j)))) (fun _ i _ => 5 - (intOf i).toNat)
  case atStart => exact ⟨0, by omega, rfl, Chg.refl _ _, World.ownsRow_nil _ _ _ _⟩
  case round =>
   obtain ⟨j, hj, rfl, kc, ho⟩ := hrel
   by_cases hlt : j < 5
   ·have cj : ∃ b o, pa = some ⟨b, o, none⟩ ∧ wr.cell? ⟨b, o + j, none⟩ = some (.float .f64 l[j]) := by
     rcases hF.keep kc with h | ⟨b, o, e, h⟩
     ·rw [h] at hl; simp at hl
     ·exact ⟨b, o, e, h j (by omega)⟩
    obtain ⟨b, o, rfl, cj⟩ := cj
    have hxj : canB l[j] < 18446744073709551616 := hx _ (List.getElem_mem _)
    have htk : l.take (j + 1) = l.take j ++ [l[j]] := by rw [List.take_succ_eq_append_getElem]
    have HO := Lib.hid ho
    have HF := Lib.hid hF
    have HX := Lib.hid hx
    clear ho hF hx
    generalize hxe : l[j] = x at *
    have hs0 := kc.size
    go_wp2_with fail
    refine (rencode_any wr x hxj).mono ?_
    rintro e w1 ⟨g, c8, rfl, k1, hb1, l1⟩
    have ho1 := own_keep HO.out k1.below0
    have hs1 : w.heap.size ≤ w1.heap.size := Nat.le_trans hs0 k1.size
    have HB1 := Lib.hid hb1
    clear hb1
    go_wp2_with (first | (at_builtin; refine wpList_append_bs rfl (.tmp 15) (.tmp 20) 47 5 rfl ty23 inf5c w.heap.size _ (8 * j) (packB (l.take j)) rfl ho1 _ 8 c8 (encB x) rfl rfl HB1.out (by omega) hs1 ?_; intro v1 w2 h2))
    go_roundw
    case rel => exact ⟨j + 1, by omega, by simp, Chg.of_below ((kc.then k1).below0.trans h2.2.1), by rw [htk, packB_snoc]; exact h2.1⟩
    case measure => simp [intOf]; omega
   ·obtain rfl : j = 5 := by omega
    go_wp2_with fail
    go_ret2
    rcases ho.2 with ⟨e, h0⟩ | ⟨g, cap, cur, e, hA, hgt, hcap, -⟩
    ·omega
    ·rw [e] at ho
     refine ⟨_, rfl, kc, g, cap, e, ?_, hA, by omega, _, hgt⟩
     have := Bs.own ho
     rwa [List.take_of_length_le (by omega)] at this
 ·have hm5 : ¬ (m : Int) = 5 := by omega
  go_enter Tryz.func24, Tryz.ntmps24
  go_wp2_with fail
  go_ret2
  first | exact ⟨rfl, Chg.refl _ _⟩ | exact ⟨_, rfl, Chg.refl _ _, by simp⟩
set_option maxRecDepth 100000 in
set_option maxHeartbeats 1000000 in
theorem runpack_forty (w : World) {b o c : Nat} {l : List UInt8} (hl : l.length = 40) (hc : 40 ≤ c) (hB : Bs w (some ⟨b, o, none⟩) l) : Calls Tryz.prog 38 #[.slice (some ⟨b, o, none⟩) 40 c] w (UnR w l) := by
 go_enter Tryz.func38, Tryz.ntmps38
 go_wp2_with fail
 go_loopw [4, 5] (fun v i wr => ∃ j : Nat, j ≤ 5 ∧ i = .int .i64 (j : Nat) ∧ ∃ xs, unpackN j l = some xs ∧ xs.length = j ∧ Chg [] w wr ∧ wr.ownsRow w.heap.size 33 1 v j (flCells xs)) (fun _ i _ => 5 - (intOf i).toNat)
 case atStart => exact ⟨0, by omega, rfl, [], rfl, rfl, Chg.refl _ _, World.ownsRow_nil _ _ _ _⟩
 case round =>
  obtain ⟨j, hj, rfl, xs, hu, hxl, kc, ho⟩ := hrel
  by_cases hlt : j < 5
  ·have hB1 := (hB.chg kc).sub (8 * j) 8
   have hs0 := kc.size
   have hsl : ((l.drop (8 * j)).take 8).length = 8 := by simp; omega
   have HD := Lib.hid (rdecode_any wr (c := c - 8 * j) hsl (by decide) hB1)
   have hsn := unpackN_snoc j l xs hu
   have f1 : (j : Int) < 5 := by omega
   have HO := Lib.hid ho
   clear hB hB1 ho
   go_wp2_with fail
   refine HD.out.mono ?_
   rintro e w1 ⟨rfl, rfl⟩
   clear HD
   generalize (l.drop (8 * j)).take 8 = sub at *
   cases hd : decB sub with
   | none =>
    rw [hd] at hsn
    have hR : decR sub = .tuple #[.float .f64 0, .int .i64 13] := by unfold decR; rw [hd]
    rw [hR]
    have hno : unpackB l = none := by
     unfold unpackB
     rw [if_pos hl]
     have := unpackN_no (j + 1) (4 - j) l hsn
     rwa [show j + 1 + (4 - j) = 5 by omega] at this
    go_wp2_with fail
    go_ret2
    exact Or.inr ⟨hno, rfl, kc⟩
   | some x =>
    rw [hd] at hsn
    have hR : decR sub = .tuple #[.float .f64 x, .int .i64 0] := by unfold decR; rw [hd]
    rw [hR]
    go_wp2_with (at_builtin; refine wpList_append_lit rfl (.tmp 28) (.tmp 30) 38 33 rfl ty22 inf42 rfl (by decide) w.heap.size wr (flCells [x]) 1 rfl _ j (flCells xs) rfl HO.out (by omega) (by decide) hs0 (k := 0) rfl (flCells_one _) rfl 1 rfl ?_; intro v' w' hap)
    go_roundw
    case rel => exact ⟨j + 1, by omega, by congr 1, xs ++ [x], hsn, by simp [hxl], Chg.of_below (kc.below0.trans hap.2.1), by have := hap.1; unfold flCells at *; simpa using this⟩
    case measure => simp [intOf]; omega
  ·obtain rfl : j = 5 := by omega
   go_wp2_with fail
   go_ret2
   refine Or.inl ⟨_, xs, ?_, rfl, kc, ho⟩
   unfold unpackB
   rw [if_pos hl, hu]
set_option maxRecDepth 100000 in
set_option maxHeartbeats 1000000 in
theorem nums_same (w : World) {pa pb : Option Addr} {m ca cb : Nat} {a b : List Nat} (hm : m ≤ 1000000) (ha : a.length = m) (hb : b.length = m) (_hca : m ≤ ca) (_hcb : m ≤ cb) (hab : a.map canB = b.map canB) (hA : Fl w pa a) (hB : Fl w pb b) :
  Calls Tryz.prog 23 #[.slice pa m ca, .slice pb m cb] w fun e w' => e = .returned (.bool true) ∧ Chg [] w w' := by
 go_enter Tryz.func23, Tryz.ntmps23
 go_wp2_with fail
 go_loopw [5] (fun i wr => ∃ j : Nat, j ≤ m ∧ i = .int .i64 j ∧ Chg [] w wr) (fun i _ => m - (intOf i).toNat)
 case atStart => exact ⟨0, by omega, rfl, Chg.refl _ _⟩
 case round =>
  obtain ⟨j, hj, rfl, kc⟩ := hrel
  by_cases hlt : j < m
  ·have cA : ∃ x o, pa = some ⟨x, o, none⟩ ∧ wr.cell? ⟨x, o + j, none⟩ = some (.float .f64 (a[j]'(by omega))) := by
    rcases hA.keep kc with h | ⟨x, o, e, h⟩
    ·rw [h] at ha; simp at ha; omega
    ·exact ⟨x, o, e, h j (by omega)⟩
   have cB : ∃ x o, pb = some ⟨x, o, none⟩ ∧ wr.cell? ⟨x, o + j, none⟩ = some (.float .f64 (b[j]'(by omega))) := by
    rcases hB.keep kc with h | ⟨x, o, e, h⟩
    ·rw [h] at hb; simp at hb; omega
    ·exact ⟨x, o, e, h j (by omega)⟩
   have hx : canB (a[j]'(by omega)) = canB (b[j]'(by omega)) := by
    have h1 : (a.map canB)[j]? = (b.map canB)[j]? := by rw [hab]
    simpa [show j < a.length by omega, show j < b.length by omega] using h1
   obtain ⟨xa, oa, rfl, cA⟩ := cA
   obtain ⟨xb, ob, rfl, cB⟩ := cB
   generalize a[j]'(by omega) = p at *
   generalize b[j]'(by omega) = q at *
   clear hA hB hab
   have hs : ((canB p : Int) == (canB q : Int)) = true := by rw [hx]; simp
   go_wp2_with fail
   go_region_held3 (fun wx => wx.cell? ⟨xa, oa + j, none⟩ = some (.float .f64 p) ∧ wx.cell? ⟨xb, ob + j, none⟩ = some (.float .f64 q)) (first | (exact ⟨cA, cB⟩))
    (first | (go_at_call 14; refine (same_any' p q _).mono ?_; rintro e w2 ⟨rfl, rfl⟩; rw [hs]))
   go_wp2_with fail
   go_roundw
   case rel => exact ⟨j + 1, by omega, by go_num, kc.drew⟩
   case measure => simp [intOf]; omega
  ·go_wp2_with fail
   go_ret
   exact ⟨rfl, kc⟩
theorem unpack_can {l : List Nat} (hl : l.length = 5) (h : ∀ x ∈ l, CanB x) : unpackB (packB l) = some l := by
 rw [unpackB_pack hl (fun x hx => (h x hx).1)]
 congr 1
 rw [List.map_congr_left (fun x hx => canB_self (h x hx)), List.map_id']
def rowC (c : Nat → Nat) (b : Nat) : List Nat := (List.range 5).map fun r => c (5 * b + r)
def CellQ (q : Int → List UInt8) (c : Nat → Nat) : Prop := (∀ i, CanB (c i)) ∧ ∀ b : Nat, b < 258 → q (b : Int) = packB (rowC c b)
def setC (c : Nat → Nat) (i x : Nat) : Nat → Nat := fun k => if k = i then canB x else c k
theorem rowC_len (c : Nat → Nat) (b : Nat) : (rowC c b).length = 5 := rfl
theorem rowC_get (c : Nat → Nat) (b r : Nat) (h : r < (rowC c b).length) : (rowC c b)[r] = c (5 * b + r) := by
 have e : (rowC c b)[r]? = some (c (5 * b + r)) := by
  unfold rowC
  rw [List.getElem?_map, List.getElem?_range (by simpa [rowC] using h)]
  rfl
 rw [List.getElem?_eq_getElem h] at e
 exact Option.some.inj e
theorem rowC_can {c : Nat → Nat} (h : ∀ i, CanB (c i)) (b : Nat) : ∀ x ∈ rowC c b, CanB x := fun x hx => by
 unfold rowC at hx
 obtain ⟨r, -, rfl⟩ := List.mem_map.1 hx
 exact h _
theorem CellQ.unpack {q : Int → List UInt8} {c : Nat → Nat} (h : CellQ q c) {b : Nat} (hb : b < 258) : unpackB (q (b : Int)) = some (rowC c b) := by
 rw [h.2 b hb]
 exact unpack_can (rowC_len c b) (rowC_can h.1 b)
theorem CellQ.len {q : Int → List UInt8} {c : Nat → Nat} (h : CellQ q c) {b : Nat} (hb : b < 258) : (q (b : Int)).length = 40 := by
 rw [h.2 b hb, packB_len, rowC_len]
theorem can_zero : CanB 0 := ⟨by decide, by decide⟩
theorem CellQ.zero : CellQ (fun _ => zeroB) (fun _ => 0) := ⟨fun _ => can_zero, fun b _ => by
 show zeroB = packB (List.replicate 5 0)
 decide⟩
theorem packB_can {l : List Nat} (h : ∀ x ∈ l, x < 18446744073709551616) : packB (l.map canB) = packB l := by
 induction l with
 | nil => rfl
 | cons x l ih =>
  rw [List.map_cons, packB_cons, packB_cons, ih (fun y hy => h y (List.mem_cons_of_mem _ hy))]
  congr 1
  unfold encB
  rw [canB_self (canB_can (h x List.mem_cons_self))]
theorem rowC_set {c : Nat → Nat} (h : ∀ i, CanB (c i)) {i x : Nat} : ((rowC c (i / 5)).set (i % 5) x).map canB = rowC (setC c i x) (i / 5) := by
 apply List.ext_getElem
 ·rw [List.length_map, List.length_set, rowC_len, rowC_len]
 ·intro r h1 h2
  rw [rowC_len] at h2
  rw [List.getElem_map, List.getElem_set]
  have e : ∀ (c : Nat → Nat) (h3 : r < (rowC c (i / 5)).length), (rowC c (i / 5))[r] = c (5 * (i / 5) + r) := fun c h3 => rowC_get c _ r h3
  rw [e, e]
  unfold setC
  by_cases hr : i % 5 = r
  ·rw [if_pos hr, if_pos (by omega)]
  ·rw [if_neg hr, if_neg (by omega)]
   exact canB_self (h _)
theorem rowC_other {c : Nat → Nat} {i x b : Nat} (hb : b ≠ i / 5) : rowC (setC c i x) b = rowC c b := by
 unfold rowC setC
 apply List.map_congr_left
 intro r hr
 rw [List.mem_range] at hr
 rw [if_neg (by omega)]
theorem CellQ.set {q : Int → List UInt8} {c : Nat → Nat} (h : CellQ q c) {i x : Nat} (hx : x < 18446744073709551616) : CellQ (putQ q (i / 5 : Nat) (packB ((rowC c (i / 5)).set (i % 5) x))) (setC c i x) := by
 refine ⟨fun k => ?_, fun b hb => ?_⟩
 ·unfold setC
  split
  ·exact canB_can hx
  ·exact h.1 k
 ·unfold putQ
  by_cases e : b = i / 5
  ·subst e
   rw [if_pos rfl, ← rowC_set h.1, packB_can]
   intro y hy
   rcases List.mem_or_eq_of_mem_set hy with hy | rfl
   ·exact (rowC_can h.1 _ y hy).1
   ·exact hx
  ·rw [if_neg (by omega), rowC_other e]
   exact h.2 b hb
def ClX (w : World) (A o : Nat) (l : List (Int × Nat)) : Prop := ∀ i (h : i < l.length), w.cell? ⟨A, o + i * 2, none⟩ = some (.int .i64 l[i].1) ∧ w.cell? ⟨A, o + i * 2 + 1, none⟩ = some (.float .f64 l[i].2)
def putC (c : Nat → Nat) (l : List (Int × Nat)) : Nat → Nat := l.foldl (fun c x => setC c (rnd x.1).toNat x.2) c
theorem putC_snoc (c : Nat → Nat) (l : List (Int × Nat)) (x : Int × Nat) : putC c (l ++ [x]) = setC (putC c l) (rnd x.1).toNat x.2 := by
 unfold putC; rw [List.foldl_append]; rfl
theorem putC_take (c : Nat → Nat) (l : List (Int × Nat)) (i : Nat) (h : i < l.length) : putC c (l.take (i + 1)) = setC (putC c (l.take i)) (rnd l[i].1).toNat l[i].2 := by
 rw [List.take_succ_eq_append_getElem h, putC_snoc]
structure FrR (w : World) (lw n : Nat) (P G : Nat) (c : Nat → Nat) : Prop where
 all : ∃ d s g q lo Y Tv xs L, ∃ j : Nat, d.P = P ∧ Srs w lw d s g q j ∧ RfR w lo G Y n Tv xs n n n L ∧ lw ≤ lo ∧ s.bl = n ∧ j ≤ 2 * n ∧ CellQ q c ∧ CellQ (viewG [] L n) c ∧ SortV L ∧ (∀ x ∈ L, x.2.1 ≤ (n : Int)) ∧ L.length ≤ 16 * n
structure FrO (w : World) (lw n ks kr ps pr : Nat) (P G : Nat) (cs cr : Nat → Nat) : Prop where
 all : ∃ d s g q0 base q Ls lo Y D V U Tv xs L S Pz, ∃ j : Nat, d.P = P ∧ Jop w lw d s g q0 j base q Ls ks lo G Y D V U n kr Tv xs n n n L S Pz ∧ lw ≤ lo ∧ s.bl = n ∧ j ≤ 2 * n ∧ CellQ q cs ∧ CellQ (viewG Pz L n) cr ∧ SortV L ∧ (∀ x ∈ L, x.2.1 ≤ (n : Int)) ∧ L.length ≤ 16 * n ∧
  RiseL Pz ∧ (∀ p ∈ Pz, 0 ≤ p.1 ∧ p.1 < 258) ∧ Pz.length ≤ pr ∧ Ls.length ≤ ps ∧ (0 < pr → 0 < Pz.length) ∧ (0 < ps → 0 < Ls.length) ∧ InE S ∧ S.length ≤ kr
theorem FrR.new {w : World} {lw : Nat} {d : Ids} {s : Gs} {g : Gd} {lo G Y : Nat} (h : Srs w lw d s g (fun _ => zeroB) 0) (hr : RfR w lo G Y 0 (.slice none 0 0) [] 0 0 0 []) (hl : lw ≤ lo) (hb : s.bl = 0) : FrR w lw 0 d.P G (fun _ => 0) :=
 ⟨d, s, g, _, lo, Y, _, _, _, 0, rfl, h, hr, hl, hb, Nat.le_refl _, CellQ.zero, CellQ.zero, List.Pairwise.nil, fun x hx => (by cases hx), Nat.le_refl _⟩
theorem FrO.keep {w w' : World} {lw n ks kr ps pr P G : Nat} {cs cr : Nat → Nat} (h : FrO w lw n ks kr ps pr P G cs cr) (k : Chg [] w w') : FrO w' lw n ks kr ps pr P G cs cr := by
 obtain ⟨d, s, g, q0, base, q, Ls, lo, Y, D, V, U, Tv, xs, L, S, Pz, j, h1, h2, h3⟩ := h.all
 exact ⟨d, s, g, q0, base, q, Ls, lo, Y, D, V, U, Tv, xs, L, S, Pz, j, h1, h2.keep k, h3⟩
theorem kp_low {a b : Nat} {w w' : World} (h : Kp b w w') (hab : a ≤ b) : Kp a w w' := by
 obtain ⟨U, h1, h2⟩ := h
 exact ⟨U, h1, fun x hx hl => Nat.le_trans hab (h2 x hx hl)⟩
theorem fro_read_r (w : World) {lw n ks kr ps pr P G b : Nat} {cs cr : Nat → Nat} (h : FrO w lw n ks kr ps pr P G cs cr) (hn : n ≤ 100) (hk : kr ≤ 60) (hp : pr ≤ 16) (hb : b < 258) :
  Calls Tryz.prog 37 #[.pointer (some ⟨G, 0, none⟩), .int .i64 (n + 1 : Nat), .agg #[.int .i64 b, .int .i64 1]] w fun e w' => ∃ v, e = .returned (.tuple #[v, .int .i64 0]) ∧
   w'.ownsRow w.heap.size 5 1 v 40 (Lib.byteCells (packB (rowC cr b))) ∧ FrO w' lw n ks (kr + 1) ps pr P G cs cr ∧ Kp lw w w' := by
 obtain ⟨d, s, g, q0, base, q, Ls, lo, Y, D, V, U, Tv, xs, L, S, Pz, j, h1, h2, h3, h4, h5, h6, h7, h8, h9, hL, hA, hB, hC, hD, hE, hF, hG, hH⟩ := h.all
 refine (jread_r w (a := b) (m := 1) h2 (by omega) (by omega) (by omega) (by omega) hG (by omega) (by omega) (by omega) (by omega)).mono ?_
 rintro e w' ⟨v, rfl, a1, a2, a3⟩
 refine ⟨v, rfl, ?_, ⟨d, s, g, q0, base, q, Ls, lo, Y, D, V, U, Tv, xs, L, _, Pz, j, h1, a2, h3, h4, h5, h6, h7, h8, h9, hL, hA, hB, hC, hD, hE, hF, rput_in hG (fun p hp => ?_), Nat.le_trans (rput_len _ _) (by omega)⟩, kp_low a3 h3⟩
 ·have e := h7.2 b hb
  rw [← e]
  simpa using a1
 ·rw [List.mem_singleton] at hp
  subst hp
  simp only
  omega
theorem fro_read_s (w : World) {lw n ks kr ps pr P G b : Nat} {cs cr : Nat → Nat} (h : FrO w lw n ks kr ps pr P G cs cr) (hk : ks ≤ 60) (hb : b < 258) :
  Calls Tryz.prog 39 #[.pointer (some ⟨P, 0, none⟩), .int .i64 (n + 1 : Nat), .agg #[.int .i64 b, .int .i64 1]] w fun e w' => ∃ gx c', e = .returned (.tuple #[.slice (some ⟨gx, 0, none⟩) 40 c', .int .i64 0]) ∧ 40 ≤ c' ∧ w.heap.size ≤ gx ∧ Bs w' (some ⟨gx, 0, none⟩) (packB (rowC cs b)) ∧
   FrO w' lw n (ks + 1) kr ps pr P G cs cr ∧ (∃ so, FsR so w w') ∧ Kp lw w w' := by
 obtain ⟨d, s, g, q0, base, q, Ls, lo, Y, D, V, U, Tv, xs, L, S, Pz, j, h1, h2, h3, h4, h5, h6, h7, h8⟩ := h.all
 have hr := jread_s w (b := (b : Int)) h2 hk (by omega) (by omega)
 rw [h4, h1] at hr
 refine Calls.mono hr ?_
 rintro e w' ⟨gx, c', rfl, a1, a2, a3, a4, a5, a6⟩
 rw [h6.2 b hb] at a3
 exact ⟨gx, c', rfl, a1, a2, a3, ⟨d, s, g, q0, base, q, Ls, lo, Y, D, V, U, Tv, xs, L, S, Pz, j, h1, a4, h3, h4, h5, h6, h7, h8⟩, a5, kp_low a6 h2.so.low.1⟩
theorem viewG_put (P : List (Int × List UInt8)) (L : List (Int × Int × List UInt8)) (t b : Int) (l : List UInt8) : viewG (bufPut P b l) L t = putQ (viewG P L t) b l := by
 funext c
 unfold viewG putQ
 rw [bufG_put]
 by_cases e : c = b
 ·rw [if_pos e, if_pos e]; rfl
 ·rw [if_neg e, if_neg e]
theorem fro_write_s (w : World) {lw n ks kr ps pr P G E eo cp B o c i x : Nat} {cs cr : Nat → Nat} (h : FrO w lw n ks kr ps pr P G cs cr) (hp : ps ≤ 15) (hi : i < 1290) (hx : x < 18446744073709551616)
  (e0 : w.cell? ⟨E, eo, none⟩ = some (.int .i64 (i / 5 : Nat))) (e1 : w.cell? ⟨E, eo + 1, none⟩ = some (.slice (some ⟨B, o, none⟩) 40 c)) (hb : Bs w (some ⟨B, o, none⟩) (packB ((rowC cs (i / 5)).set (i % 5) x))) :
  Calls Tryz.prog 17 #[.pointer (some ⟨P, 0, none⟩), .int .i64 (n + 1 : Nat), .slice (some ⟨E, eo, none⟩) 1 cp] w fun e w' => e = .returned (.int .i64 0) ∧
   FrO w' lw n ks kr (ps + 1) pr P G (setC cs i x) cr ∧ FsR none w w' ∧ Kp lw w w' := by
 obtain ⟨d, s, g, q0, base, q, Ls, lo, Y, D, V, U, Tv, xs, L, S, Pz, j, h1, h2, h3, h4, h5, h6, h7, h8, h9, hL, hA, hB, hC, hD, hE, hF, hG⟩ := h.all
 have hr := jwrite_s w (cp := cp) h2 e0 e1 hb (by rw [packB_len, List.length_set, rowC_len]) (by omega) (by omega) (by omega)
 rw [h4, h1] at hr
 refine Calls.mono hr ?_
 rintro e w' ⟨rfl, ⟨Ls', a1, a2, a3⟩, a4, a5⟩
 exact ⟨rfl, ⟨d, s, g, q0, base, _, Ls', lo, Y, D, V, U, Tv, xs, L, S, Pz, j, h1, a1, h3, h4, h5, h6.set hx, h7, h8, h9, hL, hA, hB, hC, by omega, hE, fun _ => a2, hG⟩, a4, kp_low a5 h2.so.low.1⟩
theorem fro_write_r (w : World) {lw n ks kr ps pr P G E eo cp i x : Nat} {dv : Value} {cs cr : Nat → Nat} (h : FrO w lw n ks kr ps pr P G cs cr) (hn : n ≤ 100) (hp : pr ≤ 15) (hi : i < 1290) (hx : x < 18446744073709551616)
  (e0 : w.cell? ⟨E, eo, none⟩ = some (.int .i64 (i / 5 : Nat))) (e1 : w.cell? ⟨E, eo + 1, none⟩ = some dv) (hd : DatX w dv (packB ((rowC cr (i / 5)).set (i % 5) x))) :
  Calls Tryz.prog 41 #[.pointer (some ⟨G, 0, none⟩), .int .i64 (n + 1 : Nat), .slice (some ⟨E, eo, none⟩) 1 cp] w fun e w' => e = .returned (.int .i64 0) ∧
   FrO w' lw n ks kr ps (pr + 1) P G cs (setC cr i x) ∧ Kp lw w w' := by
 obtain ⟨d, s, g, q0, base, q, Ls, lo, Y, D, V, U, Tv, xs, L, S, Pz, j, h1, h2, h3, h4, h5, h6, h7, h8, h9, hL, hA, hB, hC, hD, hE, hF, hG⟩ := h.all
 refine (jwrite_r w (cp := cp) h2 (by omega) (by omega) (by omega) (by omega) e0 e1 hd).mono ?_
 rintro e w' ⟨rfl, a1, a2⟩
 have hl : (bufPut Pz (i / 5 : Nat) (packB ((rowC cr (i / 5)).set (i % 5) x))).length ≤ Pz.length + 1 := bufA_len _ _ false _
 refine ⟨rfl, ⟨d, s, g, q0, base, _, Ls, lo, Y, D, V, U, Tv, xs, L, S, _, j, h1, a1, h3, h4, h5, h6, ?_, h8, h9, hL, hA.put _ _, put_keys hB (by omega) (by omega) _, by omega, hD, fun _ => ?_, hF, hG⟩, kp_low a2 h3⟩
 ·rw [viewG_put]
  exact h7.set hx
 ·have e := bufG_put (i / 5 : Nat) (packB ((rowC cr (i / 5)).set (i % 5) x)) (i / 5 : Nat) Pz
  rw [if_pos rfl] at e
  apply Nat.pos_of_ne_zero
  intro h0
  rw [List.length_eq_zero_iff.1 h0, bufG_nil] at e
  cases e
structure FrB (w : World) (lw n : Nat) (P G : Nat) (c : Nat → Nat) : Prop where
 all : ∃ d s g q base lo Y Tv xs L, ∃ j : Nat, d.P = P ∧ Sop w lw d s g q j base q [] 0 ∧ RfR w lo G Y n Tv xs n n n L ∧ lw ≤ lo ∧ s.bl = n ∧ j ≤ 2 * n ∧ CellQ q c ∧ CellQ (viewG [] L n) c ∧ SortV L ∧ (∀ x ∈ L, x.2.1 ≤ (n : Int)) ∧ L.length ≤ 16 * n
theorem frr_begin (w : World) {lw n P G : Nat} {c : Nat → Nat} (h : FrR w lw n P G c) (hn : n ≤ 100) :
  Calls Tryz.prog 16 #[.pointer (some ⟨P, 0, none⟩)] w fun e w' => e = .returned (.tuple #[.int .i64 (n + 1 : Nat), .int .i64 0]) ∧ FrB w' lw n P G c ∧ Kp lw w w' := by
 obtain ⟨d, s, g, q, lo, Y, Tv, xs, L, j, h1, h2, h3, h4, h5, h6, h7⟩ := h.all
 have hr := jbegin_s w h2 h3 (by omega)
 rw [h5, h1] at hr
 refine Calls.mono hr ?_
 rintro e w' ⟨rfl, ⟨d', a0, a1⟩, a2, a3⟩
 exact ⟨rfl, ⟨d', s, g, q, _, lo, Y, Tv, xs, L, j, a0.1, a1, a2, h4, h5, h6, h7⟩, a3⟩
theorem frb_begin (w : World) {lw n P G : Nat} {c : Nat → Nat} (h : FrB w lw n P G c) (hn : n ≤ 100) :
  Calls Tryz.prog 36 #[.pointer (some ⟨G, 0, none⟩)] w fun e w' => e = .returned (.tuple #[.int .i64 (n + 1 : Nat), .int .i64 0]) ∧ FrO w' lw n 0 0 0 0 P G c c ∧ Kp lw w w' := by
 obtain ⟨d, s, g, q, base, lo, Y, Tv, xs, L, j, h1, h2, h3, h4, h5, h6, h7, h8, h9, hA, hB⟩ := h.all
 refine (jbegin_r w h2 h3 (by omega) (by omega) (by omega)).mono ?_
 rintro e w' ⟨rfl, ⟨D, V, U, Tv', a1⟩, a2⟩
 exact ⟨rfl, ⟨d, s, g, q, base, q, [], lo, Y, D, V, U, Tv', xs, L, [], [], j, h1, a1, h4, h5, h6, h7, h8, h9, hA, hB, List.Pairwise.nil, fun p hp => (by cases hp), Nat.le_refl _, Nat.le_refl _, fun h => absurd h (Nat.lt_irrefl _), fun h => absurd h (Nat.lt_irrefl _), fun p hp => (by cases hp), Nat.le_refl _⟩, kp_low a2 h4⟩
structure Cnt (q : Int → List UInt8) (Pz : List (Int × List UInt8)) (L : List (Int × Int × List UInt8)) (n : Nat) (c : Nat → Nat) : Prop where
 s : CellQ q c
 r : CellQ (viewG Pz L n) c
 so : SortV L
 old : ∀ x ∈ L, x.2.1 ≤ (n : Int)
 len : L.length ≤ 16 * n
 ri : RiseL Pz
 keys : ∀ p ∈ Pz, 0 ≤ p.1 ∧ p.1 < 258
 p0 : 0 < Pz.length
 p16 : Pz.length ≤ 16
structure FrC1 (w : World) (lw n : Nat) (P G : Nat) (c : Nat → Nat) : Prop where
 all : ∃ d s g q0 q lo Y D V U k Tv xs L S Pz, ∃ j m : Nat, d.P = P ∧ Swt w lw d s g q0 j q m ∧ m ≤ 16 ∧ RfO w lo G Y D V U n k Tv xs n n n L S Pz ∧ lw ≤ lo ∧ s.bl = n ∧ j ≤ 2 * n ∧ Cnt q Pz L n c
structure FrC2 (w : World) (lw n : Nat) (P G : Nat) (c : Nat → Nat) : Prop where
 all : ∃ d s g q0 q lo Y D V U Tv xs L Pz, ∃ j m : Nat, d.P = P ∧ Swt w lw d s g q0 j q m ∧ m ≤ 16 ∧ RfW w lo G Y D V U n Tv xs n (n + 1 : Nat) n L Pz ∧ lw ≤ lo ∧ s.bl = n ∧ j ≤ 2 * n ∧ Cnt q Pz L n c
structure FrC3 (w : World) (lw n : Nat) (P G : Nat) (c : Nat → Nat) : Prop where
 all : ∃ d s g q0 q lo Y D V U Tv xs L Pz, ∃ j m : Nat, d.P = P ∧ Swt w lw d s g q0 j q m ∧ g.pos = 0 ∧ m ≤ 16 ∧ RfW w lo G Y D V U n Tv xs n (n + 1 : Nat) n L Pz ∧ lw ≤ lo ∧ s.bl = n ∧ j ≤ 2 * n + 1 ∧ Cnt q Pz L n c
structure FrC4 (w : World) (lw n : Nat) (P G : Nat) (c : Nat → Nat) : Prop where
 all : ∃ d s g q lo Y D V U Tv xs L Pz, ∃ j : Nat, d.P = P ∧ Srs w lw d s g q j ∧ RfW w lo G Y D V U n Tv xs n (n + 1 : Nat) n L Pz ∧ lw ≤ lo ∧ s.bl = (n + 1 : Nat) ∧ j ≤ 2 * (n + 1) ∧ Cnt q Pz L n c
theorem fro_commit (w : World) {lw n ks kr ps pr P G : Nat} {c : Nat → Nat} (h : FrO w lw n ks kr ps pr P G c c) (hn : n ≤ 100) (hk : ks ≤ 16) (hp : 0 < ps ∧ ps ≤ 16) (hp2 : 0 < pr ∧ pr ≤ 16) :
  Calls Tryz.prog 19 #[.pointer (some ⟨P, 0, none⟩), .int .i64 (n + 1 : Nat)] w fun e w' => e = .returned (.int .i64 0) ∧ FrC1 w' lw n P G c ∧ Kp lw w w' := by
 obtain ⟨d, s, g, q0, base, q, Ls, lo, Y, D, V, U, Tv, xs, L, S, Pz, j, h1, h2, h3, h4, h5, h6, h7, h8, h9, hL, hA, hB, hC, hD, hE, hF, hG⟩ := h.all
 have hr := jcommit_s w (m := 16) h2 (hF hp.1) (by omega) (by omega) hk (by omega)
 rw [h4, h1] at hr
 refine Calls.mono hr ?_
 rintro e w' ⟨rfl, a1, a2, a3⟩
 exact ⟨rfl, ⟨d, s, g, q0, q, lo, Y, D, V, U, kr, Tv, xs, L, S, Pz, j, 16, h1, a1, by omega, a2, h3, h4, h5, h6, h7, h8, h9, hL, hA, hB, hE hp2.1, by omega⟩, a3⟩
theorem frc_commit (w : World) {lw n P G : Nat} {c : Nat → Nat} (h : FrC1 w lw n P G c) (hn : n ≤ 100) :
  Calls Tryz.prog 42 #[.pointer (some ⟨G, 0, none⟩), .int .i64 (n + 1 : Nat)] w fun e w' => e = .returned (.int .i64 0) ∧ FrC2 w' lw n P G c ∧ Kp lw w w' := by
 obtain ⟨d, s, g, q0, q, lo, Y, D, V, U, k, Tv, xs, L, S, Pz, j, m, h1, h2, h3, h4, h5, h6, h7, h8⟩ := h.all
 have hl := h8.len
 refine (jcommit_r w h2 h4 (by omega) (by omega) h8.p0 h8.p16 h8.keys h8.old (by omega) (by omega)).mono ?_
 rintro e w' ⟨rfl, a1, a2, a3⟩
 exact ⟨rfl, ⟨d, s, g, q0, q, lo, Y, D, V, U, Tv, xs, L, Pz, j, m, h1, a1, h3, a2, h5, h6, h7, h8⟩, kp_low a3 h5⟩
theorem frc_check (w : World) {lw n P G : Nat} {c : Nat → Nat} (h : FrC2 w lw n P G c) (hn : n ≤ 100) :
  Calls Tryz.prog 20 #[.pointer (some ⟨P, 0, none⟩)] w fun e w' => e = .returned (.int .i64 0) ∧ FrC3 w' lw n P G c ∧ Kp lw w w' := by
 obtain ⟨d, s, g, q0, q, lo, Y, D, V, U, Tv, xs, L, Pz, j, m, h1, h2, h3, h4, h5, h6, h7, h8⟩ := h.all
 have hr := jcheck w h2 h4 (by omega)
 rw [h1] at hr
 refine Calls.mono hr ?_
 rintro e w' ⟨rfl, ⟨g', a1, a0⟩, a2, a3⟩
 exact ⟨rfl, ⟨d, s, g', q0, q, lo, Y, D, V, U, Tv, xs, L, Pz, j + 1, m, h1, a1, a0, h3, a2, h5, h6, by omega, h8⟩, a3⟩
theorem frc_flush (w : World) {lw n P G : Nat} {c : Nat → Nat} (h : FrC3 w lw n P G c) (hn : n ≤ 100) :
  Calls Tryz.prog 21 #[.pointer (some ⟨P, 0, none⟩)] w fun e w' => e = .returned (.int .i64 0) ∧ FrC4 w' lw n P G c ∧ Kp lw w w' := by
 obtain ⟨d, s, g, q0, q, lo, Y, D, V, U, Tv, xs, L, Pz, j, m, h1, h2, h0, h3, h4, h5, h6, h7, h8⟩ := h.all
 have hr := jflush_s w h2 h4 (by omega) h3 h0
 rw [h1] at hr
 refine Calls.mono hr ?_
 rintro e w' ⟨rfl, ⟨s', g', a1, a0⟩, a2, a3⟩
 exact ⟨rfl, ⟨d, s', g', q, lo, Y, D, V, U, Tv, xs, L, Pz, j + 1, h1, a1, a2, h5, by omega, by omega, h8⟩, a3⟩
theorem frc_done (w : World) {lw n P G : Nat} {c : Nat → Nat} (h : FrC4 w lw n P G c) (hn : n ≤ 100) :
  Calls Tryz.prog 43 #[.pointer (some ⟨G, 0, none⟩)] w fun e w' => e = .returned (.int .i64 0) ∧ FrR w' lw (n + 1) P G c ∧ Kp lw w w' := by
 obtain ⟨d, s, g, q, lo, Y, D, V, U, Tv, xs, L, Pz, j, h1, h2, h4, h5, h6, h7, h8⟩ := h.all
 have hl := h8.len
 have hp := h8.p16
 refine (jflush_r w h2 h4 (by omega) (by omega) h8.p0 h8.p16 (by omega) (by omega) h8.ri h8.keys (by omega) (by omega)).mono ?_
 rintro e w' ⟨rfl, a1, a2, a3⟩
 have hm : SameQ (viewG Pz L n) [] (mergeR (n + 1 : Nat) L Pz) (n + 1 : Nat) := SameQ.merge (fun b _ _ => rfl) h8.so h8.ri (by omega) h8.old
 refine ⟨rfl, ⟨d, s, g, q, lo, Y, Tv, _, _, j, h1, a1, a2, h5, h6, h7, h8.s, ⟨h8.r.1, fun b hb => ?_⟩, mergeR_sort _ _ _ h8.so h8.ri, merge_old h8.old (by omega), ?_⟩, kp_low a3 h5⟩
 ·rw [hm b (by omega) (by omega)]; exact h8.r.2 b hb
 ·rw [mergeR_len]; omega
theorem srs_up {w w1 w2 : World} {N A c : Nat} {Z : List Nat} {P S M X rx B rb r : Nat} (k1 : Chg [] w w1) (hO : DevOk N A Z) (lN : w.heap.size ≤ N) (lZ : ∀ z ∈ Z, w.heap.size ≤ z) (hAx : ∃ cs, w1.heap[A]? = some (.cells cs 129 (0, 0))) (hZn : Z.Nodup)
  (hM : Mk w1 w2 N A c (0 + 1) Z P S M X rx B rb r) (lP : w1.heap.size ≤ P) (lS : w1.heap.size ≤ S) (lM : w1.heap.size ≤ M) (lX : w1.heap.size ≤ X) (lrx : w1.heap.size ≤ rx) (lB : w1.heap.size ≤ B) (lrb : w1.heap.size ≤ rb) (lr : w1.heap.size ≤ r) (n1 : rx ≠ rb) (n2 : r ≠ rb) (n3 : r ≠ rx) :
  ∃ d s g, d.P = P ∧ s.bl = 0 ∧ Srs w2 w.heap.size d s g (fun _ => zeroB) 0 ∧ Chg [] w w2 := by
 have hs1 := k1.size
 have k2 := hM.1
 have hX2 : ExAt w2 S N A Z := by
  obtain ⟨cs, hAx⟩ := hAx
  exact ⟨hM.2.2.2.1, ⟨cs, k2.heap hAx (by intro hm; rcases List.mem_cons.1 hm with e | hm; exact hO.1 e; exact hO.2.2 hm)⟩, hZn⟩
 have hs2 := k2.size
 have hSt := hM.sto (lw := w.heap.size) hX2 n1 n2 n3 (by omega) (fun z hz => by have := lZ z hz; omega) (by omega)
 have kk : Chg [] w w2 := k1.trans k2 (fun x hx hlt => by
  rcases List.mem_cons.1 hx with e | hx
  ·omega
  ·have := lZ x hx; omega)
 exact ⟨_, _, _, rfl, rfl, Srs.new hSt (by omega) (by omega), kk⟩
def catQ (q : Int → List UInt8) (b : Int) (m : Nat) : List UInt8 := (List.range m).flatMap fun i : Nat => q (b + (i : Int))
theorem catQ_succ (q : Int → List UInt8) (b : Int) (m : Nat) : catQ q b (m + 1) = catQ q b m ++ q (b + (m : Int)) := by
 unfold catQ; rw [List.range_succ, List.flatMap_append]; simp
theorem catQ_len {q : Int → List UInt8} {b : Int} {m : Nat} (h : ∀ i : Nat, i < m → (q (b + (i : Int))).length = 40) : (catQ q b m).length = 40 * m := by
 induction m with
 | zero => rfl
 | succ m ih => rw [catQ_succ, List.length_append, ih (fun i hi => h i (by omega)), h m (by omega)]; omega
theorem catQ_congr {q r : Int → List UInt8} {b : Int} {m : Nat} (h : ∀ i : Nat, i < m → q (b + (i : Int)) = r (b + (i : Int))) : catQ q b m = catQ r b m := by
 induction m with
 | zero => rfl
 | succ m ih => rw [catQ_succ, catQ_succ, ih (fun i hi => h i (by omega)), h m (by omega)]
theorem catQ_split (q : Int → List UInt8) (b : Int) (j k : Nat) : catQ q b (j + k) = catQ q b j ++ catQ q (b + (j : Int)) k := by
 induction k with
 | zero => simp [catQ]
 | succ k ih => rw [← Nat.add_assoc, catQ_succ, ih, catQ_succ, List.append_assoc]; congr 3; omega
def mixQ (q y : Int → List UInt8) (b : Int) (j : Nat) : Int → List UInt8 := fun x => if x < b + j then q x else y x
theorem mixQ_step {q y : Int → List UInt8} {b : Int} {m j : Nat} (hj : j < m) (hy : ∀ i : Nat, i < m → (q (b + (i : Int))).length = 40 ∧ (y (b + (i : Int))).length = 40) :
  catQ (mixQ q y b (j + 1)) b m = (catQ (mixQ q y b j) b m).take (40 * j) ++ (q (b + (j : Int)) ++ (catQ (mixQ q y b j) b m).drop (40 * j + 40)) := by
 obtain ⟨k, rfl⟩ : ∃ k, m = j + (1 + k) := ⟨m - j - 1, by omega⟩
 have e0 : ∀ z j, catQ z b (j + (1 + k)) = catQ z b j ++ (z (b + (j : Int)) ++ catQ z (b + (j : Int) + (1 : Nat)) k) := by
  intro z j
  rw [catQ_split, catQ_split]
  congr 1
  rw [show catQ z (b + (j : Int)) 1 = z (b + (j : Int)) by simp [catQ]]
 have l1 : (catQ (mixQ q y b j) b j).length = 40 * j := catQ_len (fun i hi => by unfold mixQ; rw [if_pos (by omega)]; exact (hy i (by omega)).1)
 have l2 : (mixQ q y b j (b + (j : Int))).length = 40 := by unfold mixQ; rw [if_neg (by omega)]; exact (hy j hj).2
 rw [e0, e0, ← l1, List.take_left]
 have e3 : (catQ (mixQ q y b j) b j).length + 40 = (catQ (mixQ q y b j) b j ++ mixQ q y b j (b + (j : Int))).length := by rw [List.length_append, l2]
 rw [e3, ← List.append_assoc (catQ (mixQ q y b j) b j) (mixQ q y b j (b + (j : Int))) (catQ (mixQ q y b j) _ k), List.drop_left]
 congr 1
 ·exact catQ_congr (fun i hi => by unfold mixQ; rw [if_pos (by omega), if_pos (by omega)])
 ·congr 1
  ·unfold mixQ; rw [if_pos (by omega)]
  ·exact catQ_congr (fun i hi => by unfold mixQ; rw [if_neg (by omega), if_neg (by omega)])
theorem VerG.len {w : World} {lo X rx : Nat} {last : Int} {L : List (Int × Value)} {vs : Int → List (Int × List UInt8)} {b : Int} (h : VerG w lo X rx last L vs) (h0 : 0 ≤ b) (h1 : b < 258) (t : Int) : (bytT (vs b) t).length = 40 := by
 unfold bytT
 cases e : verT (vs b) t with
 | none => rfl
 | some p =>
  show p.2.length = 40
  have hm : p ∈ vs b := by unfold verT at e; exact List.mem_reverse.1 (List.mem_of_find?_eq_some e)
  rcases h.row b h0 h1 with ⟨-, e2⟩ | ⟨v, -, ⟨xs, -, hx⟩, -⟩
  ·rw [e2] at hm; cases hm
  ·obtain ⟨i, hi, rfl⟩ := List.getElem_of_mem hm
   obtain ⟨-, g, c, -, -, h3, -⟩ := hx i hi
   exact h3
set_option maxRecDepth 100000 in
set_option maxHeartbeats 1000000 in
theorem gwithin_m (w : World) {lo X rx : Nat} {last : Int} {L : List (Int × Value)} {vs : Int → List (Int × List UInt8)} {b n : Int} (h : VerG w lo X rx last L vs) (h0 : 0 ≤ b) (h1 : 1 ≤ n) (h2 : b + n ≤ 258) : Calls Tryz.prog 243 #[.pointer (some ⟨X, 0, none⟩), .agg #[.int .i64 b, .int .i64 n]] w fun e w' => e = .returned (.bool true) ∧ Chg [] w w' := by
 have kc : Chg [] w (w.alloc (.cells #[.int .i64 b, .int .i64 n] 79)) := Chg.alloc w _
 have h3 : VerG (w.alloc (.cells #[.int .i64 b, .int .i64 n] 79)) lo X rx last L vs := h.keep kc
 have a0 : (w.alloc (.cells #[.int .i64 b, .int .i64 n] 79)).cell? ⟨w.heap.size, 0, none⟩ = some (.int .i64 b) := cell_is (heap_new w _) 0 rfl
 have a1 : (w.alloc (.cells #[.int .i64 b, .int .i64 n] 79)).cell? ⟨w.heap.size, 1, none⟩ = some (.int .i64 n) := cell_is (heap_new w _) 1 rfl
 have n0 : decide (0 ≤ b) = true := decide_eq_true h0
 have n1 : decide (1 ≤ n) = true := decide_eq_true h1
 have n2 : decide (n ≤ 258) = true := decide_eq_true (by omega)
 have hw : IntKind.i64.wrap (258 - n) = 258 - n := by rw [IntKind.wrap_i64]; omega
 have n3 : decide (b ≤ 258 - n) = true := decide_eq_true (by omega)
 clear h
 go_enter Tryz.func243, Tryz.ntmps243
 go_wp2_with fail
 generalize w.alloc (.cells #[.int .i64 b, .int .i64 n] 79) = w1 at *
 generalize w.heap.size = z at *
 have h4 : VerG w1.drew lo X rx last L vs := h3.keep (Chg.refl [] w1).drew
 go_region_held3 (fun wx => wx.cell? ⟨z, 0, none⟩ = some (.int .i64 b) ∧ wx.cell? ⟨z, 1, none⟩ = some (.int .i64 n)) (first | (exact ⟨a0, a1⟩))
  (first | (go_at_call 116; refine (gblocks_any w1.drew h4).mono ?_; rintro e w2 ⟨rfl, rfl⟩))
 all_goals
  go_wp2_with fail
  go_ret
  exact ⟨by simp; try omega, kc.drew⟩
set_option maxRecDepth 100000 in
set_option maxHeartbeats 1000000 in
theorem grange_m (w : World) {lo X rx n : Nat} {last t : Int} {L : List (Int × Value)} {vs : Int → List (Int × List UInt8)} {b : Int} (h : VerG w lo X rx last L vs) (h0 : 0 ≤ b) (hn : 0 < n) (h1 : b + n ≤ 258) : Calls Tryz.prog 215 #[.pointer (some ⟨X, 0, none⟩), .agg #[.int .i64 b, .int .i64 n], .int .i64 t] w fun e w' =>
  ∃ g c', e = .returned (.tuple #[.slice (some ⟨g, 0, none⟩) (40 * n) c', .int .i64 0]) ∧ 40 * n ≤ c' ∧ Chg [] w w' ∧ w'.ownsRow w.heap.size 5 1 (.slice (some ⟨g, 0, none⟩) (40 * n) c') (40 * n) (Lib.byteCells (catQ (fun x => bytT (vs x) t) b n)) := by
 have kc : Chg [] w (w.alloc (.cells #[.int .i64 b, .int .i64 n] 79)) := Chg.alloc w _
 have h2 : VerG (w.alloc (.cells #[.int .i64 b, .int .i64 n] 79)) lo X rx last L vs := h.keep kc
 have a0 : (w.alloc (.cells #[.int .i64 b, .int .i64 n] 79)).cell? ⟨w.heap.size, 0, none⟩ = some (.int .i64 b) := cell_is (heap_new w _) 0 rfl
 have a1 : (w.alloc (.cells #[.int .i64 b, .int .i64 n] 79)).cell? ⟨w.heap.size, 1, none⟩ = some (.int .i64 n) := cell_is (heap_new w _) 1 rfl
 clear h
 go_enter Tryz.func215, Tryz.ntmps215
 go_wp2_with fail
 generalize w.alloc (.cells #[.int .i64 b, .int .i64 n] 79) = w1 at *
 generalize hz : w.heap.size = z at *
 refine (gwithin_m w1 h2 h0 (by omega) h1).mono ?_
 rintro e w2 ⟨rfl, k2⟩
 have h3 : VerG w2 lo X rx last L vs := h2.keep k2
 have b0 := k2.cell a0 (by simp)
 have b1 := k2.cell a1 (by simp)
 have kk := kc.then k2
 have hs2 := kk.size
 clear h2 a0 a1 kc k2
 go_wp2_with fail
 go_loopw [6, 17] (fun v i wr => ∃ j : Nat, i = .int .i64 j ∧ j ≤ n ∧ Chg [] w2 wr ∧ wr.ownsRow w2.heap.size 5 1 v (40 * j) (Lib.byteCells (catQ (fun x => bytT (vs x) t) b j))) (fun _ i _ => n - (intOf i).toNat)
 case atStart => exact ⟨0, rfl, Nat.zero_le _, Chg.refl _ _, World.ownsRow_nil _ _ _ _⟩
 case round =>
  obtain ⟨j, rfl, hj, kr, ho⟩ := hrel
  rcases Nat.lt_or_ge j n with hlt | hge
  ·have b0r := kr.cell b0 (by simp)
   have h3r : VerG wr lo X rx last L vs := h3.keep kr
   have hlt' : (j : Int) < n := by omega
   have hb1 : 0 ≤ b + j := by omega
   have hb2 : b + j < 258 := by omega
   have HO := Lib.hid ho
   clear ho
   go_wp2_with fail
   refine (gget_any wr (t := t) h3r hb1 hb2).mono ?_
   rintro e w3 ⟨g, cg, tm, rfl, k3, hb3, l3, hlen⟩
   have hs3 : w2.heap.size ≤ w3.heap.size := Nat.le_trans kr.size k3.size
   have HB3 := Lib.hid hb3
   have HLn := Lib.hid hlen
   have ho3 := ownsRow_chg HO.out k3
   have HS := Lib.hid (catQ_succ (fun x => bytT (vs x) t) b j)
   clear hb3 hlen
   go_wp2_with (at_builtin; refine wpList_append_bs rfl (.tmp 30) (.tmp 31) 47 5 rfl ty23 inf5c w2.heap.size _ (40 * j) _ rfl ho3 _ 40 cg (bytT (vs (b + j)) t) rfl HLn.out HB3.out (by omega) hs3 ?_; intro v1 w4 h4)
   go_roundw
   case rel => exact ⟨j + 1, by go_num, hlt, Chg.of_below ((kr.then k3).below0.trans (h4.2.1)), by have := h4.1; rw [HS.out]; exact this⟩
   case measure => simp [intOf]; omega
  ·obtain rfl : j = n := by omega
   have hnl : ¬ ((j : Int) < j) := by omega
   go_wp2_with fail
   go_ret2
   rcases ho.2 with ⟨e, h0⟩ | ⟨g, cap, cur, e, hA, hr⟩
   ·omega
   ·subst hz
    obtain ⟨pa, c, h5, h6⟩ := own_form ho
    rw [e] at h5
    cases h5
    exact ⟨g, cap, by rw [e]; rfl, h6, kk.then kr, by rw [← e]; exact ownsRow_base ho (by omega)⟩
set_option maxRecDepth 100000 in
theorem imay_m (w : World) {b n : Int} (h0 : 0 ≤ b) (hn : 1 ≤ n) (h1 : b + n ≤ 258) : Calls Tryz.prog 280 #[.agg #[.int .i64 b, .int .i64 n]] w fun e w' => e = .returned (.bool true) ∧ Chg [] w w' := by
 have kc : Chg [] w (w.alloc (.cells #[.int .i64 b, .int .i64 n] 79)) := Chg.alloc w _
 have n0 : decide (0 ≤ b) = true := decide_eq_true h0
 have n1 : decide (b ≤ 1048576) = true := decide_eq_true (by omega)
 have n2 : decide (1 ≤ n) = true := decide_eq_true hn
 have n3 : decide (n ≤ 1048576) = true := decide_eq_true (by omega)
 have hw : IntKind.i64.wrap (b + n) = b + n := by rw [IntKind.wrap_i64]; omega
 have n4 : decide (b + n ≤ 1048577) = true := decide_eq_true (by omega)
 go_enter Tryz.func280, Tryz.ntmps280
 go_wp2_with fail
 go_ret
 exact ⟨by first | rfl | (simp; omega), kc⟩
set_option maxRecDepth 100000 in
theorem inot_m (w : World) {b n : Int} (h0 : 0 ≤ b) (hn : 1 ≤ n) (h1 : b + n ≤ 258) : Calls Tryz.prog 279 #[.agg #[.int .i64 b, .int .i64 n]] w fun e w' => e = .returned (.bool false) ∧ Chg [] w w' := by
 have kc : Chg [] w (w.alloc (.cells #[.int .i64 b, .int .i64 n] 79)) := Chg.alloc w _
 go_enter Tryz.func279, Tryz.ntmps279
 go_wp2_with fail
 refine (imay_m _ h0 hn h1).mono ?_
 rintro e w2 ⟨rfl, k2⟩
 go_wp2_with fail
 go_ret
 exact ⟨rfl, kc.then k2⟩
set_option maxRecDepth 100000 in
theorem iall_m (w : World) {E eo cp : Nat} {b n : Int} (h0 : 0 ≤ b) (hn : 1 ≤ n) (h1 : b + n ≤ 258) (e0 : w.cell? ⟨E, eo, none⟩ = some (.int .i64 b)) (e1 : w.cell? ⟨E, eo + 1, none⟩ = some (.int .i64 n)) : Calls Tryz.prog 245 #[.slice (some ⟨E, eo, none⟩) 1 cp] w fun e w' => e = .returned (.bool true) ∧ Chg [] w w' := by
 go_enter Tryz.func245, Tryz.ntmps245
 go_wp2_with fail
 refine (contspan_one w e0 e1 (inot_m w h0 hn h1)).mono ?_
 rintro e w2 ⟨rfl, k2⟩
 go_wp2_with fail
 go_ret
 exact ⟨rfl, k2⟩
set_option maxRecDepth 100000 in
set_option maxHeartbeats 2000000 in
theorem iadd_m (w : World) {base V n E cp : Nat} {b m : Int} (h : SpV w base V n) (hn : n ≤ 60) (hbase : base ≤ w.heap.size) (h0 : 0 ≤ b) (hm : 1 ≤ m) (h1 : b + m ≤ 258) (e0 : w.cell? ⟨E, 0, none⟩ = some (.int .i64 b)) (e1 : w.cell? ⟨E, 1, none⟩ = some (.int .i64 m)) :
  Calls Tryz.prog 216 #[.pointer (some ⟨V, 0, none⟩), .slice (some ⟨E, 0, none⟩) 1 cp] w fun e w' => e = .returned (.int .i64 0) ∧ Chg [V] w w' ∧ SpV w' base V (n + 1) := by
 obtain ⟨v, l, hV, hl, ho⟩ := h
 obtain ⟨pa, c, rfl, hq⟩ := own_spq ho
 have hE : SpQ w (some ⟨E, 0, none⟩) [(b, m)] := Or.inr ⟨E, 0, rfl, fun j u hu => by
  rw [Nat.zero_add]
  match j with
  | 0 => cases hu; exact e0
  | 1 => cases hu; exact e1
  | j + 2 => simp [spCells] at hu⟩
 have v1 : w.cell? ⟨V, 1, none⟩ = some (.slice pa l.length c) := cell_is hV 1 rfl
 go_enter Tryz.func216, Tryz.ntmps216
 go_wp2_with fail
 refine (iall_m w (cp := cp) h0 hm h1 e0 e1).mono ?_
 rintro e w1 ⟨rfl, k1⟩
 have v2 := k1.cell v1 (by simp)
 have hq2 := hq.keep k1
 have hE2 := hE.keep k1
 have hV2 := k1.heap hV (by simp)
 have ho2 := ownsRow_chg ho k1
 clear e0 e1 v1 hV hq hE ho
 go_wp2_with fail
 have kx : Chg [] w1 (w1.alloc (.cells #[.slice pa l.length c, .slice (some ⟨E, 0, none⟩) 1 cp] 175)) := Chg.alloc _ _
 have x0 : (w1.alloc (.cells #[.slice pa l.length c, .slice (some ⟨E, 0, none⟩) 1 cp] 175)).cell? ⟨w1.heap.size, 0, none⟩ = some (.slice pa l.length c) := cell_is (heap_new w1 _) 0 rfl
 have x1 : (w1.alloc (.cells #[.slice pa l.length c, .slice (some ⟨E, 0, none⟩) 1 cp] 175)).cell? ⟨w1.heap.size, 1, none⟩ = some (.slice (some ⟨E, 0, none⟩) 1 cp) := cell_is (heap_new w1 _) 1 rfl
 refine (concat_two _ x0 x1 rfl rfl (by omega) (by omega) (by omega) (hq2.keep kx) (hE2.keep kx)).mono ?_
 rintro e w2 ⟨v', rfl, k2, o2⟩
 obtain ⟨g, cap, cur, rfl, hgb, hgc, hgs, _, hgl⟩ := own_sp o2 (by simp)
 have k3 := (k1.then kx).then k2
 go_wp2_with fail
 refine (joined_any w2 hgl (by omega) (by omega) hgs).mono ?_
 rintro e w3 ⟨v3, k, l3, rfl, k4, hk, hl3, o3⟩
 have k5 := k3.then k4
 have hV3 : SpansAt w3 V (.slice pa l.length c) := ((kx.then k2).then k4).heap hV2 (by simp)
 have c0 : w3.cell? ⟨V, 0, none⟩ = some (.int .i64 64) := cell_is hV3 0 rfl
 have c1 : w3.cell? ⟨V, 1, none⟩ = some (.slice pa l.length c) := cell_is hV3 1 rfl
 have f1 := unfrozen hV3 1
 obtain ⟨pq, cq, hv3, hcq⟩ := own_form o3
 subst hv3
 have hsz := k3.size
 have HF := Lib.hid (show SpV (w3.setCell ⟨V, 1, none⟩ (.slice pq k cq)) base V (n + 1) from by
  refine ⟨_, l3, heap_set hV3 1 _ rfl, by omega, ?_⟩
  have kk := Chg.set w3 V 1 (.slice pq k cq)
  refine ownsRow_base (base := w2.heap.size) ?_ (by omega)
  rw [hl3]
  refine ownsRow_chg o3 kk ?_
  intro x hx
  have := heap_lt hV2
  have := (kx.then k2).size
  simp at hx
  omega)
 clear k3 k4 o3 hV3 hV2 x0 x1 hgs hgc o2 hq2 hE2
 have hcmp : ¬ ((k : Int) > 64) := by omega
 go_wp2_with fail
 go_ret
 exact ⟨rfl, (k5.mono (T := [V]) (fun x hx _ => by cases hx)).then (Chg.set w3 V 1 _), HF.out⟩
end Go.Proofs.YtelakcjbknbehaaGreat
