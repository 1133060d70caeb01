/- The statement SchedAdds: so many ops of a client may wait, and not one more; nobody else may have some; for every input that can be read. -/
import Derived.Deep.QuietTactic
import Derived.Laws.MakeOwn
import Derived.Test.YtkhionhicegfmaaGreatRows
import Derived.ProofKit
import Derived.OpenShut
import Derived.Lib.SlBytesRowKit
import Derived.Lib.SmallJoins
import Derived.Deep.Slices
import Derived.Deep.Fields
import Derived.ChangeMaps5
import Derived.Test.YtkhionhicegfmaaGreatAb
import Derived.Test.YtkhionhicegfmaaGreatAh
import Derived.Test.YtkhionhicegfmaaGreatAi
namespace Go.Proofs.YtkhionhicegfmaaGreat
open Go.RowKit Go.Lib

/-- a schedule whose first client's transaction is committed, and was not told of it. -/
def StgD (x : Pl25) (o av : Value) (q : Bool) (fr ev : Int) (na : Nat) (w : World) : Prop :=
  ∃ T W rw Q V Bb bv al s g xs, SchB w x.K (sch x.d.N x.d.P o bv av q al ev) ∧ Beg1 w x.lw Bb bv 1 fr 0 ∧ Sto w x.lw (dT x.d T W rw Q V) s g ∧ getL s.Lr 1 = some (.pointer (some ⟨T, 0, none⟩)) ∧
    w.heap[T]? = some (.cells #[.int .i64 3, .int .i64 1, .int .i64 0, .int .i64 0, .pointer (some ⟨W, 0, none⟩), .pointer (some ⟨Q, 0, none⟩)] 202 (0, 0)) ∧ Bas x.w0 x.lw x.C x.K x.R x.g x.E x.D x.cE x.cD x.r w ∧ w.ownsRow x.lw 66 5 av na xs
set_option maxRecDepth 100000 in
theorem st4 (x : Pl25) (w : World) {o av : Value} {na : Nat} (h : StgW x o av true 1 3 na w) (hKl : x.lw ≤ x.K) (hlw : x.lw ≤ w.heap.size) (hops : 0 ≤ x.ops ∧ x.ops ≤ 2) :
    Calls Tryz.prog 38 #[.pointer (some ⟨x.K, 0, none⟩)] w fun e w' => e = .returned (.int .i64 0) ∧ StgD x o av true 1 4 na w' := by
  obtain ⟨cs, xs, hP, hB, ho⟩ := h
  have hPw := hP
  obtain ⟨T0, W0, rw0, Q0, V0, Bb0, bv0, al0, qf0, L0, gq0, cq0, rfl, -⟩ := hPw
  refine sched_flush w hB rfl rfl ⟨by decide, by decide⟩ (fun wx kx hBx => ?_)
  have hx := (PW.cl x _ _ _ _ _ _).keep w wx _ hP kx (chgK hB).k66 (fun y hy => by rw [List.mem_singleton] at hy; omega)
  obtain ⟨T, W, rw, Q, V, Bb, bv, al, qf, L, gq, cq, hcs, hbg, hS, hW, hT, hL, hb⟩ := hx
  rw [hcs] at hBx
  have hox := own_chgB ho kx (fun g hg hm => by
    rw [List.mem_singleton] at hm
    subst hm
    obtain ⟨-, cur, hh⟩ := own_elem ho hg
    rw [show w.heap[_]? = _ from hB] at hh
    cases hh)
  refine (sflush_tx wx (k := 1) hS hW rfl hT (Nat.le_trans hlw kx.size) (by decide) (show (0 : Int) < 1 by decide) (by decide) (fun c => (show 0 + 16 < 1000000 by decide)) (show (0 : Int) ≤ 0 by decide) (show (0 : Int) ≤ 100000000 by decide) (by show 0 + L.length + 1 ≤ 96; omega) (by show 0 + L.length + 1 ≤ 96; omega) (show 0 ≤ x.ops by omega) (show x.ops ≤ 100000 by omega) (show 0 < 4294967296 by decide) (show 0 < 1000000000 by decide)).mono ?_
  rintro e w' ⟨rfl, z6, Lv6, v6, hS6, cs6, -, hT6⟩
  have hLo := Lo.of_cs cs6
  refine ⟨rfl, T, W, rw, Q, V, Bb, bv, al, _, _, xs, cs6.heap hBx (by decide), ?_, hS6, rfl, hT6, hb.lo hLo, own_cs hox cs6 (by decide)⟩
  obtain ⟨U, hU1, hU2⟩ := cs6
  refine hbg.keep hU1 (fun y hy hl cs t fr hh => ?_)
  exact (by decide : ∀ u ∈ ([105, 189, 202, 253, 262, 93, 97, 40, 3, 256, 166] : List Nat), u ≠ 158 ∧ u ≠ 161) t ((hU2 y hy hl).2 cs t fr hh)
/-- .. and was told of it. -/
def PE (x : Pl25) (o av : Value) (cs : Array Value) (w : World) : Prop := (∃ bv al, cs = sch x.d.N x.d.P o bv av true al 5) ∧ Up x.lw x.w0 w
theorem PE.cl (x : Pl25) (o av : Value) (cs : Array Value) : Cl x.lw (PE x o av cs) := ⟨fun _ _ _ h hc _ hl => ⟨h.1, h.2.then hc (fun y hy _ => hl y hy)⟩⟩
set_option maxRecDepth 100000 in
theorem st5 (x : Pl25) (w : World) {c na : Nat} {av : Value} (h : StgD x (.slice (some ⟨x.g, 10, none⟩) 1 c) av true 1 4 na w) (hKl : x.lw ≤ x.K) (hlw : x.lw ≤ w.heap.size) (hc : 1 ≤ c) (hna : na ≤ 900) :
    Calls Tryz.prog 35 #[.pointer (some ⟨x.K, 0, none⟩), .int .i64 1] w fun e w' => e = .returned (.tuple #[.agg #[.int .i64 4, .int .i64 0, .int .i64 0, .int .i64 1, .slice none 0 0], .int .i64 0]) ∧ Up x.lw x.w0 w' := by
  obtain ⟨T, W, rw, Q, V, Bb, bv, al, s, g, xs, hB, hbg, hS, htab, hT, hb, ho⟩ := h
  obtain ⟨cur, hr, -, -, -, -, -, -, -, -, -, -, q0, q1, q2, q3, q4⟩ := hb.ops.row
  have hgK : x.g ≠ x.K := heap_ne hr hB (by simp)
  refine (step_told w (P := PE x (.slice (some ⟨x.g, 10, none⟩) 1 c) av) (q := true) (av := av) (na := na) (m := 0) (x0 := 4) (x1 := 0) (x2 := 0) (x3 := 1) hlw hKl (fun cs => PE.cl x _ _ cs) hB rfl rfl rfl ⟨by decide, by decide⟩ hc (cell_is hr 10 q0) (cell_is hr 11 q1) (cell_is hr 12 q2) (cell_is hr 13 q3) (cell_is hr 14 q4) hgK ?_ ?_ ho hna).mono ?_
  · intro wx kx hBx
    have tK := (chgK hB).k66
    have hlK : ∀ y ∈ [x.K], x.lw ≤ y := fun y hy => by rw [List.mem_singleton] at hy; omega
    have hSx := hS.tp149 kx tK
    have hbgx := hbg.keep kx (beg_ne tK (by decide))
    have hbx := hb.tp kx tK (by decide) hlK
    have hTK : T ∉ [x.K] := by
      intro hm
      rw [List.mem_singleton] at hm
      subst hm
      rw [show w.heap[x.K]? = _ from hB] at hT
      cases hT
    have hTx := kx.heap hT hTK
    have hlx : x.lw ≤ wx.heap.size := Nat.le_trans hlw kx.size
    obtain ⟨gb, cb, rfl, g0⟩ := hbgx.at_
    refine do_call wx (kind := 4) (h := 1) (nb := 1) (Or.inr rfl) hlx (fun cs => PE.cl x _ _ cs) (cell_is hBx 3 rfl) (by decide) g0 (cell_is hbgx.2.1 0 rfl) (by decide) (fun wy ky => ?_)
    refine ccall_c wy (Nat.le_trans hlx ky.size) (fun cs => PE.cl x _ _ cs) (fun wz kz => ?_)
    have kyz := ky.then kz
    have hBz : SchB wz x.K _ := kyz.heap hBx (by simp)
    have hbgz := hbgx.keep kyz (fun y hy => by cases hy)
    have hTz := kyz.heap hTx (by simp)
    refine (commit_told wz (K := x.K) (Bb := Bb) (d := dT x.d T W rw Q V) (h := 1) (k := 1) (ev := 5) (x2 := 0) hBz rfl rfl rfl hbgz.2.1 rfl rfl (hSx.keep kyz) htab (cell_is hTz 0 rfl) (cell_is hTz 1 rfl) (cell_is hTz 2 rfl)).mono ?_
    rintro e w' ⟨rfl, -, hch, -⟩
    refine ⟨rfl, _, ⟨⟨_, _, rfl⟩, (hbx.up.then kyz (fun y hy => by cases hy)).then hch (fun y hy _ => by rw [List.mem_singleton] at hy; subst hy; exact hbgz.2.2)⟩, hch.heap hBz ?_, fun y cs hy => hch.heap hy ?_⟩
    · intro hm
      rw [List.mem_singleton] at hm
      exact heap_ne hBz hbgz.2.1 (by simp) hm
    · intro hm
      rw [List.mem_singleton] at hm
      subst hm
      rw [hbgz.2.1] at hy
      cases hy
  · rintro cs2 w2 ⟨⟨bv, al, rfl⟩, -⟩
    exact ⟨rfl, rfl, rfl⟩
  · rintro e w' ⟨rfl, av', cs2, hP, -, -⟩
    exact ⟨rfl, hP.2⟩
end Go.Proofs.YtkhionhicegfmaaGreat
namespace Go.Proofs.YtkhionhicegfmaaGreat
open Go.RowKit Go.Lib

set_option maxRecDepth 100000 in
theorem bytes_none (w : World) : Calls Tryz.prog 24 #[.slice none 0 0, .slice none 0 0] w fun e w' => e = .returned (.bool true) ∧ w = w' := by
  go_enter Tryz.func24, Tryz.ntmps24
  go_wp2_with fail
  go_loopw [5] (fun i wr => i = .int .i64 0 ∧ w = wr) (fun _ _ => 0)
  case atStart => exact ⟨rfl, rfl⟩
  case round =>
    obtain ⟨rfl, rfl⟩ := hrel
    go_wp2_with fail
    go_ret
    exact ⟨rfl, rfl⟩
set_option maxRecDepth 100000 in
set_option maxHeartbeats 1000000 in
theorem answer_same (w : World) {a b c d : Int} : Calls Tryz.prog 36 #[.agg #[.int .i64 a, .int .i64 b, .int .i64 c, .int .i64 d, .slice none 0 0], .agg #[.int .i64 a, .int .i64 b, .int .i64 c, .int .i64 d, .slice none 0 0]] w fun e w' => e = .returned (.bool true) ∧ Chg [] w w' := by
  have kk : Chg [] w ((w.alloc (.cells #[.int .i64 a, .int .i64 b, .int .i64 c, .int .i64 d, .slice none 0 0] 66)).alloc (.cells #[.int .i64 a, .int .i64 b, .int .i64 c, .int .i64 d, .slice none 0 0] 66)) := (Chg.alloc w _).then_alloc _
  obtain ⟨y1, y2⟩ := heap_new2 w (.cells #[.int .i64 a, .int .i64 b, .int .i64 c, .int .i64 d, .slice none 0 0] 66) (.cells #[.int .i64 a, .int .i64 b, .int .i64 c, .int .i64 d, .slice none 0 0] 66)
  have hz1 := heap_lt y1
  have HQ := Lib.hid kk
  generalize hw0 : (w.alloc (.cells #[.int .i64 a, .int .i64 b, .int .i64 c, .int .i64 d, .slice none 0 0] 66)).alloc (.cells #[.int .i64 a, .int .i64 b, .int .i64 c, .int .i64 d, .slice none 0 0] 66) = w0 at *
  have c0 := cell_is y1 0 rfl
  have c1 := cell_is y1 1 rfl
  have c2 := cell_is y1 2 rfl
  have c3 := cell_is y1 3 rfl
  have c4 := cell_is y1 4 rfl
  have d0 := cell_is y2 0 rfl
  have d1 := cell_is y2 1 rfl
  have d2 := cell_is y2 2 rfl
  have d3 := cell_is y2 3 rfl
  have d4 := cell_is y2 4 rfl
  generalize hz : w.heap.size = z at *
  go_enter Tryz.func36, Tryz.ntmps36
  go_wp2_with fail
  refine (bytes_none _).mono ?_
  rintro e w1 ⟨rfl, rfl⟩
  go_wp2_with fail
  go_ret
  exact ⟨rfl, HQ.out⟩
end Go.Proofs.YtkhionhicegfmaaGreat
namespace Go.Proofs.YtkhionhicegfmaaGreat
open Go.RowKit Go.Lib

theorem sch_set (N P : Nat) (o o' b a : Value) (q : Bool) (al : Value) (ev : Int) {cs' : Array Value} (h2 : cs'[2]? = some o') (hr : ∀ j, j ≠ 2 → cs'[j]? = (sch N P o b a q al ev)[j]?) : cs' = sch N P o' b a q al ev := by
  refine Array.ext_getElem? (fun i => ?_)
  by_cases hi : i = 2
  · subst hi
    rw [h2]
    rfl
  · rw [hr i hi, show sch N P o' b a q al ev = (sch N P o b a q al ev).setIfInBounds 2 o' from rfl, Array.getElem?_setIfInBounds_ne (Ne.symm hi)]
set_option maxRecDepth 100000 in
theorem add25 (wx : World) {w1 : World} {lw C K R D E0 Eo : Nat} {d : Ids} {ops : Int} {r : List UInt8} (k : Chg [] w1 wx) (hS : Sto w1 lw d (s00 lw) (g00 lw ops)) (hK : SchB w1 K (sch d.N d.P (.slice none 0 0) (.slice none 0 0) (.slice none 0 0) false (.slice none 0 0) 0))
    (hC : w1.heap[C]? = some (.cells #[.pointer (some ⟨K, 0, none⟩), .pointer (some ⟨R, 0, none⟩), .int .i64 0] 77 (0, 0))) (hlw : lw ≤ w1.heap.size) (hKl : lw ≤ K) (hD : Fo wx D r) (hE0 : wx.heap[E0]? = some (.cells #[.int .i64 1, .slice (some ⟨D, 0, none⟩) 40 40] 43 (0, 0)))
    (hEo : wx.heap[Eo]? = some (.cells #[.int .i64 1, .int .i64 0, .int .i64 0, .int .i64 0, .slice none 0 0, .int .i64 3, .int .i64 0, .int .i64 0, .int .i64 0, .slice (some ⟨E0, 0, none⟩) 1 1, .int .i64 4, .int .i64 0, .int .i64 0, .int .i64 0, .slice none 0 0] 64 (0, 0))) :
    Calls Tryz.prog 34 #[.pointer (some ⟨K, 0, none⟩), .int .i64 1, .slice (some ⟨Eo, 0, none⟩) 3 3] wx fun e w' => e = .returned (.int .i64 0) ∧ ∃ g E D' cE cD c, 3 ≤ c ∧ Sto w' lw d (s00 lw) (g00 lw ops) ∧
      SchB w' K (sch d.N d.P (.slice (some ⟨g, 0, none⟩) 3 c) (.slice none 0 0) (.slice none 0 0) false (.slice none 0 0) 0) ∧ Bas w1 lw C K R g E D' cE cD r w' := by
  have hKx : SchB wx K _ := k.heap hK (by simp)
  have hG : OpsG wx Eo [⟨1, 0, 0, 0, none⟩, ⟨3, 0, 0, 0, some (1, r)⟩, ⟨4, 0, 0, 0, none⟩] := by
    refine ⟨⟨_, hEo⟩, fun i s hs => ?_⟩
    match i with
    | 0 =>
      cases hs
      refine ⟨_, ⟨_, rfl, Or.inl ⟨rfl, rfl⟩⟩, fun j y hy => ?_⟩
      match j with
      | 0 => cases hy; exact cell_is hEo 0 rfl
      | 1 => cases hy; exact cell_is hEo 1 rfl
      | 2 => cases hy; exact cell_is hEo 2 rfl
      | 3 => cases hy; exact cell_is hEo 3 rfl
      | 4 => cases hy; exact cell_is hEo 4 rfl
      | j + 5 => simp at hy
    | 1 =>
      cases hs
      refine ⟨_, ⟨_, rfl, Or.inr ⟨1, r, E0, 0, 1, D, 40, rfl, rfl, cell_is hE0 0 rfl, cell_is hE0 1 rfl, hD.bs, hD.1, _, _, hE0, hD.2⟩⟩, fun j y hy => ?_⟩
      match j with
      | 0 => cases hy; exact cell_is hEo 5 rfl
      | 1 => cases hy; exact cell_is hEo 6 rfl
      | 2 => cases hy; exact cell_is hEo 7 rfl
      | 3 => cases hy; exact cell_is hEo 8 rfl
      | 4 => cases hy; exact cell_is hEo 9 rfl
      | j + 5 => simp at hy
    | 2 =>
      cases hs
      refine ⟨_, ⟨_, rfl, Or.inl ⟨rfl, rfl⟩⟩, fun j y hy => ?_⟩
      match j with
      | 0 => cases hy; exact cell_is hEo 10 rfl
      | 1 => cases hy; exact cell_is hEo 11 rfl
      | 2 => cases hy; exact cell_is hEo 12 rfl
      | 3 => cases hy; exact cell_is hEo 13 rfl
      | 4 => cases hy; exact cell_is hEo 14 rfl
      | j + 5 => simp at hy
    | i + 3 => simp at hs
  refine (sadd_ok wx (c := 3) (lo := lw) (old := []) (xs := []) hKx rfl ⟨by decide, by decide⟩ rfl (World.ownsRow_nil _ _ _ _) rfl (Nat.le_trans hlw k.size) hG (by intro h; cases h) (show 0 + 3 ≤ 200 by decide)).mono ?_
  rintro e w' ⟨rfl, cs', v', xs', hr⟩
  refine ⟨rfl, ?_⟩
  have hown : w'.ownsRow lw 64 5 v' 3 xs' := hr.own
  obtain ⟨g, c, rfl⟩ := own_some hown (by decide)
  have hcs : cs' = _ := sch_set _ _ _ _ _ _ _ _ _ hr.at_ hr.rest
  have hB : SchB w' K _ := hcs ▸ hr.blk
  have hch : Chg [K] wx w' := hr.chg
  have hops : OpsL w' lw [⟨1, 0, 0, 0, none⟩, ⟨3, 0, 0, 0, some (1, r)⟩, ⟨4, 0, 0, 0, none⟩] xs' := hr.ops
  obtain ⟨u1, y1, rfl, ⟨p1, rfl, h1⟩, u2, y2, rfl, ⟨p2, rfl, h2⟩, u3, y3, rfl, ⟨p3, rfl, h3⟩, rfl⟩ := hops
  obtain ⟨-, rfl⟩ : (none : Option (Int × List UInt8)) = none ∧ p1 = .slice none 0 0 := by
    rcases h1 with h | ⟨b, dl, h, -⟩
    · exact h
    · cases h
  obtain ⟨-, rfl⟩ : (none : Option (Int × List UInt8)) = none ∧ p3 = .slice none 0 0 := by
    rcases h3 with h | ⟨b, dl, h, -⟩
    · exact h
    · cases h
  obtain ⟨E, cE, D', cD, ce, rfl, hlE, hlD, hE, hce0, hce1, hbs, hl, hbt⟩ : PutOf w' lw p2 1 r := by
    rcases h2 with ⟨h, -⟩ | ⟨b, dl, h, hp⟩
    · cases h
    · cases h
      exact hp
  have tK : Tp wx [K] [149, 66] := (chgK hKx).k66
  rcases hown.2 with ⟨e, h0⟩ | ⟨g', cap, cur, e, hA, hg, hc1, hc2, hc3, ht⟩
  · cases h0
  cases e
  have hcell : ∀ i v, i < 15 → ([.int .i64 1, .int .i64 0, .int .i64 0, .int .i64 0, .slice none 0 0] ++ ([.int .i64 3, .int .i64 0, .int .i64 0, .int .i64 0, .slice (some ⟨E, 0, none⟩) 1 cE] ++ ([.int .i64 4, .int .i64 0, .int .i64 0, .int .i64 0, .slice none 0 0] ++ [])) : List Value)[i]? = some v → cur[i]? = some v := fun i v hi hv => by
    have : (cur.toList.take (3 * 5))[i]? = some v := by rw [ht]; exact hv
    rwa [List.getElem?_take_of_lt (by omega), Array.getElem?_toList] at this
  refine ⟨g, E, D', cE, cD, c, by simpa using hc1, (hS.keep k).tp149 hch tK, hB, (Up.of0 k).then hch (fun y hy _ => by rw [List.mem_singleton] at hy; omega), hch.heap (k.heap hC (by simp)) ?_, ⟨⟨cur, hg, hcell 0 _ (by decide) rfl, hcell 1 _ (by decide) rfl, hcell 2 _ (by decide) rfl, hcell 3 _ (by decide) rfl, hcell 4 _ (by decide) rfl, hcell 5 _ (by decide) rfl, hcell 6 _ (by decide) rfl, hcell 7 _ (by decide) rfl, hcell 8 _ (by decide) rfl, hcell 9 _ (by decide) rfl, hcell 10 _ (by decide) rfl, hcell 11 _ (by decide) rfl, hcell 12 _ (by decide) rfl, hcell 13 _ (by decide) rfl, hcell 14 _ (by decide) rfl⟩, ⟨ce, hE, hce0, hce1⟩, hbs, hl, hbt⟩⟩
  intro hm
  rw [List.mem_singleton] at hm
  exact heap_ne (k.heap hC (by simp)) hKx (by simp) hm
end Go.Proofs.YtkhionhicegfmaaGreat
namespace Go.Proofs.YtkhionhicegfmaaGreat
open Go.RowKit Go.Lib

theorem Stg.size {x : Pl25} {o av : Value} {q : Bool} {fr ev : Int} {k na : Nat} {w : World} (h : Stg x o av q fr ev k na w) (h0 : x.lw ≤ x.w0.heap.size) : x.lw ≤ w.heap.size := by
  obtain ⟨cs, xs, ⟨T, base, W, rw, Q, V, Bb, bv, al, qf, L, -, -, -, -, hb⟩, -⟩ := h
  obtain ⟨U, h1, -⟩ := hb.up
  exact Nat.le_trans h0 h1.size
theorem StgW.size {x : Pl25} {o av : Value} {q : Bool} {fr ev : Int} {na : Nat} {w : World} (h : StgW x o av q fr ev na w) (h0 : x.lw ≤ x.w0.heap.size) : x.lw ≤ w.heap.size := by
  obtain ⟨cs, xs, ⟨T, W, rw, Q, V, Bb, bv, al, qf, L, gq, cq, -, -, -, -, -, -, hb⟩, -⟩ := h
  obtain ⟨U, h1, -⟩ := hb.up
  exact Nat.le_trans h0 h1.size
theorem StgD.size {x : Pl25} {o av : Value} {q : Bool} {fr ev : Int} {na : Nat} {w : World} (h : StgD x o av q fr ev na w) (h0 : x.lw ≤ x.w0.heap.size) : x.lw ≤ w.heap.size := by
  obtain ⟨T, W, rw, Q, V, Bb, bv, al, s, g, xs, -, -, -, -, -, hb, -⟩ := h
  obtain ⟨U, h1, -⟩ := hb.up
  exact Nat.le_trans h0 h1.size
theorem Stg.wd {x : Pl25} {o av : Value} {q : Bool} {fr ev : Int} {k na : Nat} {w : World} (h : Stg x o av q fr ev k na w) : w.cell? ⟨x.C, 0, none⟩ = some (.pointer (some ⟨x.K, 0, none⟩)) := by
  obtain ⟨cs, xs, ⟨T, base, W, rw, Q, V, Bb, bv, al, qf, L, -, -, -, -, hb⟩, -⟩ := h
  exact cell_is hb.wd 0 rfl
theorem StgW.wd {x : Pl25} {o av : Value} {q : Bool} {fr ev : Int} {na : Nat} {w : World} (h : StgW x o av q fr ev na w) : w.cell? ⟨x.C, 0, none⟩ = some (.pointer (some ⟨x.K, 0, none⟩)) := by
  obtain ⟨cs, xs, ⟨T, W, rw, Q, V, Bb, bv, al, qf, L, gq, cq, -, -, -, -, -, -, hb⟩, -⟩ := h
  exact cell_is hb.wd 0 rfl
theorem StgD.wd {x : Pl25} {o av : Value} {q : Bool} {fr ev : Int} {na : Nat} {w : World} (h : StgD x o av q fr ev na w) : w.cell? ⟨x.C, 0, none⟩ = some (.pointer (some ⟨x.K, 0, none⟩)) := by
  obtain ⟨T, W, rw, Q, V, Bb, bv, al, s, g, xs, -, -, -, -, -, hb, -⟩ := h
  exact cell_is hb.wd 0 rfl
theorem StgW.keep {x : Pl25} {o av : Value} {q : Bool} {fr ev : Int} {na : Nat} {w w' : World} (h : StgW x o av q fr ev na w) (hc : Chg [] w w') : StgW x o av q fr ev na w' := by
  obtain ⟨cs, xs, h1, h2, h3⟩ := h
  exact ⟨cs, xs, (PW.cl x _ _ _ _ _ _).keep w w' [] h1 hc (fun y hy => by cases hy) (fun y hy => by cases hy), hc.heap h2 (by simp), own_keep h3 hc.below0⟩
set_option maxRecDepth 100000 in
set_option maxHeartbeats 4000000 in
theorem awake25 (w : World) : Calls Tryz.prog 31 #[] w fun e w' => e = .returned (.bool true) ∧ Chg [] w w' := by
  go_enter Tryz.func31, Tryz.ntmps31
  go_wp2_with fail
  refine (fresh25 w).mono ?_
  rintro e w1 ⟨C, K, R, d, ops, lw, rfl, k1, hl0, hKl, hCl, hlw, hC, hS, hops, hK⟩
  have c0 : w1.cell? ⟨C, 0, none⟩ = some (.pointer (some ⟨K, 0, none⟩)) := cell_is hC 0 rfl
  have c0d : w1.drew.cell? ⟨C, 0, none⟩ = some (.pointer (some ⟨K, 0, none⟩)) := c0
  have kd : Chg [] w1 w1.drew := (Chg.refl [] w1).drew
  have HX := Lib.hid (And.intro k1 (And.intro hC (And.intro hS (And.intro hK kd))))
  have HI := Lib.hid (And.intro hl0 (And.intro hKl (And.intro hCl (And.intro hlw hops))))
  clear k1 hC hS hK kd hl0 hKl hCl hlw hops
  go_wp2_with fail
  go_region_law
    (first
      | (go_simp; go_at_call 18; refine (data_ok w1.drew 1).mono ?_; rintro e w2 ⟨D, r, rfl, k2, hD, hF⟩; have s2 := k2.cell c0d (by simp); have kA : Chg [] w2 (w2.alloc (.cells #[.int .i64 1, .slice (some ⟨D, 0, none⟩) 40 40] 43)) := Chg.alloc w2 _; have sA := kA.cell s2 (by simp); have kB : Chg [] w2 ((w2.alloc (.cells #[.int .i64 1, .slice (some ⟨D, 0, none⟩) 40 40] 43)).alloc (.cells #[.int .i64 1, .int .i64 0, .int .i64 0, .int .i64 0, .slice none 0 0, .int .i64 3, .int .i64 0, .int .i64 0, .int .i64 0, .slice (some ⟨w2.heap.size, 0, none⟩) 1 1, .int .i64 4, .int .i64 0, .int .i64 0, .int .i64 0, .slice none 0 0] 64)) := kA.then_alloc _; have sB := kB.cell s2 (by simp); have y2 := heap_new2 w2 (.cells #[.int .i64 1, .slice (some ⟨D, 0, none⟩) 40 40] 43) (.cells #[.int .i64 1, .int .i64 0, .int .i64 0, .int .i64 0, .slice none 0 0, .int .i64 3, .int .i64 0, .int .i64 0, .int .i64 0, .slice (some ⟨w2.heap.size, 0, none⟩) 1 1, .int .i64 4, .int .i64 0, .int .i64 0, .int .i64 0, .slice none 0 0] 64); have hFB : Fo ((w2.alloc (.cells #[.int .i64 1, .slice (some ⟨D, 0, none⟩) 40 40] 43)).alloc (.cells #[.int .i64 1, .int .i64 0, .int .i64 0, .int .i64 0, .slice none 0 0, .int .i64 3, .int .i64 0, .int .i64 0, .int .i64 0, .slice (some ⟨w2.heap.size, 0, none⟩) 1 1, .int .i64 4, .int .i64 0, .int .i64 0, .int .i64 0, .slice none 0 0] 64)) D r := ⟨hF.1, kB.heap hF.2 (by simp)⟩)
      | (go_simp; go_at_call 34; refine (add25 _ (R := R) ((HX.out.2.2.2.2.then k2).then kB) HX.out.2.2.1 HX.out.2.2.2.1 HX.out.2.1 HI.out.2.2.2.1 HI.out.2.1 hFB y2.1 y2.2).mono ?_; rintro e w5 ⟨rfl, g, E, D', cE, cD, c, hc3, hS5, hB5, hb5⟩; have s5 : w5.cell? ⟨C, 0, none⟩ = some (.pointer (some ⟨K, 0, none⟩)) := cell_is hb5.wd 0 rfl))
  all_goals
    have hs5 : lw ≤ w5.heap.size := by
      obtain ⟨U, h1, -⟩ := hb5.up
      exact Nat.le_trans HI.out.2.2.2.1 h1.size
    have H5 := Lib.hid (st1 ⟨w1, lw, C, K, R, g, E, D', cE, cD, r, d, ops⟩ w5 hS5 hB5 hb5 HI.out.2.1 hs5 hc3)
    clear c0 c0d k2 hF s2 kA sA kB sB y2 hFB hS5 hB5 hb5 hs5
    go_wp2_with fail
    refine H5.out.mono ?_
    rintro e w6 ⟨v6, av6, rfl, h6⟩
    have s6 : w6.cell? ⟨C, 0, none⟩ = some (.pointer (some ⟨K, 0, none⟩)) := h6.wd
    have H6 := Lib.hid (st2 _ w6 h6 HI.out.2.1 (h6.size HI.out.2.2.2.1) (by omega) (by decide))
    clear H5 s5 h6
    go_wp2_with fail
    refine H6.out.mono ?_
    rintro e w7 ⟨v7, av7, rfl, h7⟩
    have s7 : w7.cell? ⟨C, 0, none⟩ = some (.pointer (some ⟨K, 0, none⟩)) := h7.wd
    have H7 := Lib.hid (st3 _ w7 h7 HI.out.2.1 (h7.size HI.out.2.2.2.1) (by omega))
    clear H6 s6 h7
    go_wp2_with fail
    refine H7.out.mono ?_
    rintro e w8 ⟨rfl, h8⟩
    have k8 : Chg [] w8 (w8.alloc (.cells #[.int .i64 0, .int .i64 0, .int .i64 0, .int .i64 0, .slice none 0 0] 66)) := Chg.alloc w8 _
    have h8' := h8.keep k8
    have s8 : (w8.alloc (.cells #[.int .i64 0, .int .i64 0, .int .i64 0, .int .i64 0, .slice none 0 0] 66)).cell? ⟨C, 0, none⟩ = some (.pointer (some ⟨K, 0, none⟩)) := h8'.wd
    have H8 := Lib.hid (st4 _ _ h8' HI.out.2.1 (h8'.size HI.out.2.2.2.1) HI.out.2.2.2.2)
    clear H7 s7 h8 k8 h8'
    go_wp2_with fail
    refine H8.out.mono ?_
    rintro e w9 ⟨rfl, h9⟩
    have s9 : w9.cell? ⟨C, 0, none⟩ = some (.pointer (some ⟨K, 0, none⟩)) := h9.wd
    have H9 := Lib.hid (st5 _ w9 h9 HI.out.2.1 (h9.size HI.out.2.2.2.1) (by omega) (by decide))
    clear H8 s8 h9
    go_wp2_with fail
    refine H9.out.mono ?_
    rintro e w10 ⟨rfl, h10⟩
    have k10 := Lib.hid (Up.chg0 HX.out.1 h10 HI.out.1)
    have y10 := heap_new w10 (.cells #[.int .i64 4, .int .i64 0, .int .i64 0, .int .i64 1, .slice none 0 0] 66)
    have d0 := cell_is y10 0 rfl
    have d1 := cell_is y10 1 rfl
    have d2 := cell_is y10 2 rfl
    have d3 := cell_is y10 3 rfl
    have d4 := cell_is y10 4 rfl
    clear H9 s9 h10
    go_wp2_with fail
    refine (answer_same _).mono ?_
    rintro e w11 ⟨rfl, k11⟩
    have k12 := Lib.hid ((k10.out.then_alloc _).then k11)
    clear k11 d0 d1 d2 d3 d4 y10
    go_wp2_with fail
    go_ret
    exact ⟨rfl, k12.out⟩
end Go.Proofs.YtkhionhicegfmaaGreat
namespace Go.Proofs.YtkhionhicegfmaaGreat
open Go.RowKit Go.Lib

set_option maxRecDepth 100000 in
theorem sadd_out (w : World) {K P n c : Nat} {p : Option Addr} {a : Int} {cs : Array Value} (h : SchB w K cs) (h1 : cs[1]? = some (.pointer (some ⟨P, 0, none⟩))) (ha : a < 1 ∨ 8 < a) :
    Calls Tryz.prog 34 #[.pointer (some ⟨K, 0, none⟩), .int .i64 a, .slice p n c] w fun e w' => e = .returned (.int .i64 1) ∧ w = w' := by
  have HC := Lib.hid (client_out w h h1 ha)
  clear h h1 ha
  go_enter Tryz.func34, Tryz.ntmps34
  go_wp2_with fail
  refine HC.out.mono ?_
  rintro e w1 ⟨rfl, rfl⟩
  go_wp2_with fail
  go_ret
  exact ⟨rfl, rfl⟩
set_option maxRecDepth 100000 in
theorem sadd_big (w : World) {K P n c m cm : Nat} {p pm : Option Addr} {a : Int} {cs : Array Value} (h : SchB w K cs) (h1 : cs[1]? = some (.pointer (some ⟨P, 0, none⟩))) (ha : 1 ≤ a ∧ a ≤ 8) (ho : cs[cli a]? = some (.slice pm m cm)) (hm : m ≤ 200) (hn : 200 < m + n) :
    Calls Tryz.prog 34 #[.pointer (some ⟨K, 0, none⟩), .int .i64 a, .slice p n c] w fun e w' => e = .returned (.int .i64 7) ∧ w = w' := by
  have HC := Lib.hid (client_in w h h1 ha)
  have c0 : w.cell? ⟨K, cli a, none⟩ = some (.slice pm m cm) := cell_is h _ ho
  have n1 : decide ((200 : Int) - (m : Int) < (n : Int)) = true := decide_eq_true (by omega)
  have hw1 : IntKind.i64.wrap ((200 : Int) - (m : Int)) = (200 : Int) - (m : Int) := by rw [IntKind.wrap_i64]; omega
  generalize cli a = o at *
  clear h h1 ha ho
  go_enter Tryz.func34, Tryz.ntmps34
  go_wp2_with fail
  refine HC.out.mono ?_
  rintro e w1 ⟨rfl, rfl⟩
  go_wp2_with fail
  go_ret
  exact ⟨rfl, rfl⟩
/-- an op that is all nought. -/
def zop : OpS := ⟨0, 0, 0, 0, none⟩
def zopC : Array Value := #[.int .i64 0, .int .i64 0, .int .i64 0, .int .i64 0, .slice none 0 0]
theorem mkops (n : Nat) (hn : n ≤ 210) (w : World) : (Instr.makeSlice 78 (.int .i64 (n : Int)) (.int .i64 (n : Int))).run Tryz.prog w = .ok (.slice (some ⟨w.heap.size, 0, none⟩) n n) (w.alloc (.cells (madeCells zopC (n * 5)) 64)) := by
  obtain ⟨i, hi0, hz, hz1, hz2⟩ := info_parts inf64
  have := run_make (P := Tryz.prog) (w := w) 78 64 i _ ty78 hi0 hz .i64 .i64 (n : Int) (n : Int) (by omega) (by omega) (by rw [hz2]; omega) (by omega)
  rw [hz1] at this
  simp only [Int.toNat_natCast] at this
  exact this
theorem madeC (n i j : Nat) (hi : i < n) (hj : j < 5) : (madeCells zopC (n * 5))[5 * i + j]? = zopC[j]? := by
  have hlt : 5 * i + j < n * 5 := by omega
  have hs : zopC.size = 5 := rfl
  unfold madeCells
  rw [Array.getElem?_map, Array.getElem?_range, if_pos hlt]
  simp only [Option.map_some, hs]
  rw [show (5 * i + j) % 5 = j by omega]
  match j, hj with
  | 0, _ => rfl
  | 1, _ => rfl
  | 2, _ => rfl
  | 3, _ => rfl
  | 4, _ => rfl
  | j + 5, h => omega
theorem opsG_zero {w : World} {E n : Nat} (h : w.heap[E]? = some (.cells (madeCells zopC (n * 5)) 64 (0, 0))) : OpsG w E (List.replicate n zop) := by
  refine ⟨⟨_, h⟩, fun i s hs => ?_⟩
  have hi : i < n := by
    have := (List.getElem?_eq_some_iff.1 hs).1
    simpa using this
  have hz : s = zop := by
    rw [List.getElem?_replicate, if_pos hi] at hs
    exact (Option.some.inj hs).symm
  subst hz
  refine ⟨[.int .i64 0, .int .i64 0, .int .i64 0, .int .i64 0, .slice none 0 0], ⟨_, rfl, Or.inl ⟨rfl, rfl⟩⟩, fun j y hy => ?_⟩
  have hj : j < 5 := by
    have := (List.getElem?_eq_some_iff.1 hy).1
    simpa using this
  refine cell_is h _ ?_
  rw [madeC n i j hi hj]
  match j, hj with
  | 0, _ => exact hy
  | 1, _ => exact hy
  | 2, _ => exact hy
  | 3, _ => exact hy
  | 4, _ => exact hy
  | j + 5, h => omega
/-- a schedule whose client a has m ops. -/
def Has (w1 : World) (lw C K R P : Nat) (a : Int) (m : Nat) (w : World) : Prop :=
  Up lw w1 w ∧ w.heap[C]? = some (.cells #[.pointer (some ⟨K, 0, none⟩), .pointer (some ⟨R, 0, none⟩), .int .i64 0] 77 (0, 0)) ∧ ∃ cs v xs ss, SchB w K cs ∧ cs[1]? = some (.pointer (some ⟨P, 0, none⟩)) ∧ cs[cli a]? = some v ∧ w.ownsRow lw 64 5 v ss.length xs ∧ OpsL w lw ss xs ∧ ss.length = m
theorem Has.keep {w1 w w' : World} {lw C K R P : Nat} {a : Int} {m : Nat} (h : Has w1 lw C K R P a m w) (k : Chg [] w w') : Has w1 lw C K R P a m w' := by
  obtain ⟨h1, h2, cs, v, xs, ss, h3, h4, h5, h6, h7, h8⟩ := h
  exact ⟨h1.then k (fun y hy => by cases hy), k.heap h2 (by simp), cs, v, xs, ss, k.heap h3 (by simp), h4, h5, own_keep h6 k.below0, h7.keepT k (fun y hy => by cases hy), h8⟩
theorem Has.wd {w1 w : World} {lw C K R P : Nat} {a : Int} {m : Nat} (h : Has w1 lw C K R P a m w) : w.cell? ⟨C, 0, none⟩ = some (.pointer (some ⟨K, 0, none⟩)) := cell_is h.2.1 0 rfl
theorem Has.add {w1 w : World} (wx : World) {lw C K R P Eo n m : Nat} {a : Int} (h : Has w1 lw C K R P a m w) (k : Chg [] w wx) (hE : wx.heap[Eo]? = some (.cells (madeCells zopC (n * 5)) 64 (0, 0))) (hlt : w.heap.size ≤ Eo) (ha : 1 ≤ a ∧ a ≤ 8) (hlw : lw ≤ w1.heap.size) (hKl : lw ≤ K) (hmn : m + n ≤ 200) :
    Calls Tryz.prog 34 #[.pointer (some ⟨K, 0, none⟩), .int .i64 a, .slice (some ⟨Eo, 0, none⟩) n n] wx fun e w' => e = .returned (.int .i64 0) ∧ Has w1 lw C K R P a (m + n) w' := by
  obtain ⟨h1, h2, cs, v, xs, ss, h3, h4, h5, h6, h7, h8⟩ := h
  have hlx : lw ≤ wx.heap.size := by
    obtain ⟨U, hU, -⟩ := h1
    exact Nat.le_trans hlw (Nat.le_trans hU.size k.size)
  have hne : v.ownBlock ≠ some Eo := fun he => by
    obtain ⟨-, cur, hh⟩ := own_elem h6 he
    have := heap_lt hh
    omega
  have h3x : SchB wx K cs := k.heap h3 (by simp)
  have h6x := own_keep h6 k.below0
  have := sadd_ok wx (c := n) (lo := lw) (old := ss) (ss := List.replicate n zop) h3x h4 ha h5 h6x (h7.keepT k (fun y hy => by cases hy)) hlx (opsG_zero hE) hne (by rw [List.length_replicate]; omega)
  rw [List.length_replicate] at this
  refine this.mono ?_
  rintro e w' ⟨rfl, cs', v', xs', hr⟩
  have hch := hr.chg
  refine ⟨rfl, (h1.then k (fun y hy => by cases hy)).then hch (fun y hy _ => ?_), hch.heap (k.heap h2 (by simp)) (fun hm => ?_), cs', v', xs', ss ++ List.replicate n zop, hr.blk, ?_, hr.at_, hr.own, hr.ops, by simp [h8]⟩
  · rcases List.mem_cons.1 hy with rfl | hy
    · exact hKl
    · exact (own_elem h6 (show v.ownBlock = some y by simpa using hy)).1
  · rcases List.mem_cons.1 hm with e | hm
    · exact heap_ne (k.heap h2 (by simp)) h3x (by simp) e
    · obtain ⟨-, cur, hh⟩ := own_elem h6 (show v.ownBlock = some C by simpa using hm)
      rw [h2] at hh
      cases hh
  · rw [hr.rest 1 (by unfold cli; omega)]
    exact h4
theorem Has.big {w1 w : World} (wx : World) {lw C K R P n m c : Nat} {a : Int} {p : Option Addr} (h : Has w1 lw C K R P a m w) (k : Chg [] w wx) (ha : 1 ≤ a ∧ a ≤ 8) (hm : m ≤ 200) (hmn : 200 < m + n) :
    Calls Tryz.prog 34 #[.pointer (some ⟨K, 0, none⟩), .int .i64 a, .slice p n c] wx fun e w' => e = .returned (.int .i64 7) ∧ Has w1 lw C K R P a m w' := by
  have hx := h.keep k
  obtain ⟨h1, h2, cs, v, xs, ss, h3, h4, h5, h6, h7, h8⟩ := hx
  obtain ⟨pa, ca, rfl, -⟩ := own_form h6
  rw [h8] at h5
  refine (sadd_big wx h3 h4 ha h5 hm hmn).mono ?_
  rintro e w' ⟨rfl, rfl⟩
  exact ⟨rfl, h.keep k⟩
theorem Has.left {w1 w : World} {lw C K R P m : Nat} {a : Int} (h : Has w1 lw C K R P a m w) (ha : 1 ≤ a ∧ a ≤ 8) :
    Calls Tryz.prog 37 #[.pointer (some ⟨K, 0, none⟩), .int .i64 a] w fun e w' => e = .returned (.int .i64 m) ∧ w = w' := by
  obtain ⟨h1, h2, cs, v, xs, ss, h3, h4, h5, h6, h7, h8⟩ := h
  obtain ⟨pa, ca, rfl, -⟩ := own_form h6
  rw [h8] at h5
  exact left_in w h3 h4 ha h5
end Go.Proofs.YtkhionhicegfmaaGreat
namespace Go.Proofs.YtkhionhicegfmaaGreat
open Go.RowKit Go.Lib

set_option maxRecDepth 100000 in
set_option maxHeartbeats 4000000 in
theorem law7_far (a n m : Int) (w : World) (h : n < 0 ∨ 210 < n ∨ m < 0 ∨ 210 < m) : Calls Tryz.prog 7 #[.int .i64 a, .int .i64 n, .int .i64 m] w fun e w' => e = .returned (.bool true) ∧ Chg [] w w' := by
  have hc : (decide (n < 0) || decide (210 < n) || decide (m < 0) || decide (210 < m)) = true := by simp; omega
  have hb : ∀ x y : Prop, [Decidable x] → [Decidable y] → (decide x = true ∨ decide x = false) := fun x y _ _ => by cases decide x <;> simp
  have HA := Lib.hid (awake25 w)
  by_cases h1 : n < 0
  · have n1 : decide (n < 0) = true := decide_eq_true h1
    clear hc h hb
    go_enter Tryz.func7, Tryz.ntmps7
    go_wp2_with fail
    refine HA.out.mono ?_
    rintro e w1 ⟨rfl, k⟩
    go_wp2_with fail
    go_ret
    exact ⟨rfl, k⟩
  by_cases h2 : 210 < n
  · have n1 : decide (n < 0) = false := decide_eq_false h1
    have n2 : decide (210 < n) = true := decide_eq_true h2
    clear hc h hb
    go_enter Tryz.func7, Tryz.ntmps7
    go_wp2_with fail
    refine HA.out.mono ?_
    rintro e w1 ⟨rfl, k⟩
    go_wp2_with fail
    go_ret
    exact ⟨rfl, k⟩
  by_cases h3 : m < 0
  · have n1 : decide (n < 0) = false := decide_eq_false h1
    have n2 : decide (210 < n) = false := decide_eq_false h2
    have n3 : decide (m < 0) = true := decide_eq_true h3
    clear hc h hb
    go_enter Tryz.func7, Tryz.ntmps7
    go_wp2_with fail
    refine HA.out.mono ?_
    rintro e w1 ⟨rfl, k⟩
    go_wp2_with fail
    go_ret
    exact ⟨rfl, k⟩
  · have n1 : decide (n < 0) = false := decide_eq_false h1
    have n2 : decide (210 < n) = false := decide_eq_false h2
    have n3 : decide (m < 0) = false := decide_eq_false h3
    have n4 : decide (210 < m) = true := decide_eq_true (by omega)
    clear hc h hb
    go_enter Tryz.func7, Tryz.ntmps7
    go_wp2_with fail
    refine HA.out.mono ?_
    rintro e w1 ⟨rfl, k⟩
    go_wp2_with fail
    go_ret
    exact ⟨rfl, k⟩
set_option maxRecDepth 100000 in
theorem step_none (w : World) {K P : Nat} {a : Int} {cs : Array Value} (h : SchB w K cs) (h1 : cs[1]? = some (.pointer (some ⟨P, 0, none⟩))) (ha : a < 1 ∨ 8 < a) :
    Calls Tryz.prog 35 #[.pointer (some ⟨K, 0, none⟩), .int .i64 a] w fun e w' => e = .returned (.tuple #[.agg #[.int .i64 0, .int .i64 0, .int .i64 0, .int .i64 0, .slice none 0 0], .int .i64 1]) ∧ Chg [] w w' := by
  have k0 : Chg [] w (w.alloc (.cells #[.int .i64 0, .int .i64 0, .int .i64 0, .int .i64 0, .slice none 0 0] 66)) := Chg.alloc w _
  have HC := Lib.hid (client_out _ (k0.heap h (by simp)) h1 ha)
  have HK := Lib.hid k0
  clear h h1 ha k0
  go_enter Tryz.func35, Tryz.ntmps35
  go_wp2_with fail
  refine HC.out.mono ?_
  rintro e w1 ⟨rfl, rfl⟩
  go_wp2_with fail
  refine bodyPost_ret (v := .tuple #[.agg #[.int .i64 0, .int .i64 0, .int .i64 0, .int .i64 0, .slice none 0 0], .int .i64 1]) (by simp [results, Tryz.results35, go_sem]) rfl ?_
  exact ⟨rfl, HK.out⟩
set_option maxRecDepth 100000 in
set_option maxHeartbeats 4000000 in
theorem law7_out (a : Int) (n m : Nat) (w : World) (hn : n ≤ 210) (hm : m ≤ 210) (ha : a < 1 ∨ 8 < a) : Calls Tryz.prog 7 #[.int .i64 a, .int .i64 n, .int .i64 m] w fun e w' => e = .returned (.bool true) ∧ Chg [] w w' := by
  have n1 : decide ((n : Int) < 0) = false := decide_eq_false (by omega)
  have n2 : decide (210 < (n : Int)) = false := decide_eq_false (by omega)
  have n3 : decide ((m : Int) < 0) = false := decide_eq_false (by omega)
  have n4 : decide (210 < (m : Int)) = false := decide_eq_false (by omega)
  have hmk := mkops n hn
  go_enter Tryz.func7, Tryz.ntmps7
  go_wp2_with fail
  refine (fresh25 w).mono ?_
  rintro e w1 ⟨C, K, R, d, ops, lw, rfl, k1, hl0, hKl, hCl, hlw, hC, hS, hops, hK⟩
  have c0 : w1.cell? ⟨C, 0, none⟩ = some (.pointer (some ⟨K, 0, none⟩)) := cell_is hC 0 rfl
  have c0d : w1.drew.cell? ⟨C, 0, none⟩ = some (.pointer (some ⟨K, 0, none⟩)) := c0
  have kA : Chg [] w1 (w1.alloc (.cells (madeCells zopC (n * 5)) 64)).drew := (Chg.alloc w1 _).drew
  have cA := kA.cell c0 (by simp)
  have HX := Lib.hid (And.intro k1 (And.intro hC hK))
  clear k1 hC hS hK
  go_wp2_with fail
  have B0 : SchB (w1.alloc (.cells (madeCells zopC (n * 5)) 64)).drew K _ := kA.heap HX.out.2.2 (by simp)
  have HAd := Lib.hid ((sadd_out _ (n := n) (c := n) (p := some ⟨w1.heap.size, 0, none⟩) B0 rfl ha).mono (fun e w' (h : e = .returned (.int .i64 1) ∧ _ = w') => (show e = .returned (.int .i64 1) ∧ Chg [] w1 w' from ⟨h.1, h.2 ▸ kA⟩)))
  have hor : ∀ {p : Prop}, (decide (a < 1) = true → p) → (decide (a < 1) = false → decide (8 < a) = true → p) → p := fun h1 h2 => by
    by_cases h : a < 1
    · exact h1 (decide_eq_true h)
    · exact h2 (decide_eq_false h) (decide_eq_true (by omega))
  have Ha := Lib.hid ha
  clear B0 ha
  go_region_law
    (first
      | (go_simp; go_at_call 34; refine HAd.out.mono ?_; rintro e w2 ⟨rfl, k2⟩))
  all_goals
    have B2 : SchB w2 K _ := k2.heap HX.out.2.2 (by simp)
    have s2 : w2.cell? ⟨C, 0, none⟩ = some (.pointer (some ⟨K, 0, none⟩)) := k2.cell c0 (by simp)
    have HS := Lib.hid (step_none w2 B2 rfl Ha.out)
    have HK2 := Lib.hid k2
    clear B2 k2 c0 c0d cA kA HAd hmk
    refine hor (fun f1 => ?_) (fun f1 f2 => ?_)
    all_goals
      go_wp2_with fail
      refine HS.out.mono ?_
      rintro e w3 ⟨rfl, k3⟩
      go_upto_region 9 with fail
      have k4 : Chg [] w1 (w3.alloc (.cells #[.int .i64 0, .int .i64 0, .int .i64 0, .int .i64 0, .slice none 0 0] 66)) := (HK2.out.then k3).then_alloc _
      have s4 := k4.cell (cell_is HX.out.2.1 0 rfl) (by simp)
      have B4 : SchB (w3.alloc (.cells #[.int .i64 0, .int .i64 0, .int .i64 0, .int .i64 0, .slice none 0 0] 66)) K _ := k4.heap HX.out.2.2 (by simp)
      have HL := Lib.hid (left_out _ B4 rfl Ha.out)
      have HAn := Lib.hid (answers_out _ B4 rfl Ha.out)
      have HAw := Lib.hid (awake25 (w3.alloc (.cells #[.int .i64 0, .int .i64 0, .int .i64 0, .int .i64 0, .slice none 0 0] 66)))
      have HK4 := Lib.hid (HX.out.1.then k4)
      clear k3 k4 B4 HS s2
      generalize w3.alloc (.cells #[.int .i64 0, .int .i64 0, .int .i64 0, .int .i64 0, .slice none 0 0] 66) = w4 at *
      go_wp2_with fail
      refine HL.out.mono ?_
      rintro e w5 ⟨rfl, rfl⟩
      go_wp2_with fail
      refine HAn.out.mono ?_
      rintro e w5 ⟨rfl, rfl⟩
      go_wp2_with fail
      refine HAw.out.mono ?_
      rintro e w5 ⟨rfl, k5⟩
      have k6 := Lib.hid (HK4.out.then k5)
      clear k5
      go_wp2_with fail
      go_ret
      exact ⟨rfl, k6.out⟩
end Go.Proofs.YtkhionhicegfmaaGreat
namespace Go.Proofs.YtkhionhicegfmaaGreat
open Go.RowKit Go.Lib

theorem Has.any {w1 w : World} (wx : World) {lw C K R P Eo n m c l : Nat} {a : Int} (h : Has w1 lw C K R P a m w) (k : Chg [] w wx) (hE : wx.heap[Eo]? = some (.cells (madeCells zopC (n * 5)) 64 (0, 0))) (hlt : w.heap.size ≤ Eo) (ha : 1 ≤ a ∧ a ≤ 8) (hlw : lw ≤ w1.heap.size) (hKl : lw ≤ K) (hm : m ≤ 200)
    (hc : (m + n ≤ 200 ∧ c = 0 ∧ l = m + n) ∨ (200 < m + n ∧ c = 7 ∧ l = m)) :
    Calls Tryz.prog 34 #[.pointer (some ⟨K, 0, none⟩), .int .i64 a, .slice (some ⟨Eo, 0, none⟩) n n] wx fun e w' => e = .returned (.int .i64 c) ∧ Has w1 lw C K R P a l w' := by
  rcases hc with ⟨h1, rfl, rfl⟩ | ⟨h1, rfl, rfl⟩
  · exact h.add wx k hE hlt ha hlw hKl h1
  · exact h.big wx k ha hm h1
set_option maxRecDepth 100000 in
set_option maxHeartbeats 8000000 in
theorem law7_in (a : Int) (n m c1 l1 c2 l2 : Nat) (w : World) (hn : n ≤ 210) (hm : m ≤ 210) (ha : 1 ≤ a ∧ a ≤ 8) (hc1 : (n ≤ 200 ∧ c1 = 0 ∧ l1 = n) ∨ (200 < n ∧ c1 = 7 ∧ l1 = 0)) (hc2 : (l1 + m ≤ 200 ∧ c2 = 0 ∧ l2 = l1 + m) ∨ (200 < l1 + m ∧ c2 = 7 ∧ l2 = l1)) : Calls Tryz.prog 7 #[.int .i64 a, .int .i64 n, .int .i64 m] w fun e w' => e = .returned (.bool true) ∧ Chg [] w w' := by
  have n1 : decide ((n : Int) < 0) = false := decide_eq_false (by omega)
  have n2 : decide (210 < (n : Int)) = false := decide_eq_false (by omega)
  have n3 : decide ((m : Int) < 0) = false := decide_eq_false (by omega)
  have n4 : decide (210 < (m : Int)) = false := decide_eq_false (by omega)
  have n5 : decide (a < 1) = false := decide_eq_false (by omega)
  have n6 : decide (8 < a) = false := decide_eq_false (by omega)
  have hmk := mkops n hn
  have hmk2 := mkops m hm
  have Hc1 := Lib.hid hc1
  have Hc2 := Lib.hid hc2
  have Ha := Lib.hid ha
  clear hc1 hc2 ha
  go_enter Tryz.func7, Tryz.ntmps7
  go_wp2_with fail
  refine (fresh25 w).mono ?_
  rintro e w1 ⟨C, K, R, d, ops, lw, rfl, k1, hl0, hKl, hCl, hlw, hC, hS, hops, hK⟩
  have hHas : Has w1 lw C K R d.P a 0 w1 := by
    refine ⟨Up.of0 (Chg.refl [] w1), hC, _, .slice none 0 0, [], [], hK, rfl, ?_, World.ownsRow_nil _ _ _ _, rfl, rfl⟩
    have hh := Ha.out
    have hc : a = 1 ∨ a = 2 ∨ a = 3 ∨ a = 4 ∨ a = 5 ∨ a = 6 ∨ a = 7 ∨ a = 8 := by omega
    rcases hc with rfl | rfl | rfl | rfl | rfl | rfl | rfl | rfl <;> rfl
  have c0 : w1.cell? ⟨C, 0, none⟩ = some (.pointer (some ⟨K, 0, none⟩)) := cell_is hC 0 rfl
  have c0d : w1.drew.cell? ⟨C, 0, none⟩ = some (.pointer (some ⟨K, 0, none⟩)) := c0
  have kA : Chg [] w1 (w1.alloc (.cells (madeCells zopC (n * 5)) 64)).drew := (Chg.alloc w1 _).drew
  have cA := kA.cell c0 (by simp)
  have HX := Lib.hid (And.intro k1 (And.intro hl0 (And.intro hKl hlw)))
  have hEo : (w1.alloc (.cells (madeCells zopC (n * 5)) 64)).drew.heap[w1.heap.size]? = some (.cells (madeCells zopC (n * 5)) 64 (0, 0)) := heap_new w1 _
  have HAd := Lib.hid (hHas.any (c := c1) (l := l1) _ kA hEo (Nat.le_refl _) Ha.out hlw hKl (by decide) (by have := Hc1.out; omega))
  clear k1 hC hS hK hHas hl0 hKl hCl hlw hops hEo kA
  go_wp2_with fail
  go_region_law
    (first
      | (go_simp; go_at_call 34; refine HAd.out.mono ?_; rintro e w2 ⟨rfl, h2⟩))
  all_goals
    have s2 : w2.cell? ⟨C, 0, none⟩ = some (.pointer (some ⟨K, 0, none⟩)) := h2.wd
    have s2d : w2.drew.cell? ⟨C, 0, none⟩ = some (.pointer (some ⟨K, 0, none⟩)) := s2
    have kA : Chg [] w2 (w2.alloc (.cells (madeCells zopC (m * 5)) 64)).drew := (Chg.alloc w2 _).drew
    have sA := kA.cell s2 (by simp)
    have hEo : (w2.alloc (.cells (madeCells zopC (m * 5)) 64)).drew.heap[w2.heap.size]? = some (.cells (madeCells zopC (m * 5)) 64 (0, 0)) := heap_new w2 _
    have HA2 := Lib.hid (h2.any (c := c2) (l := l2) _ kA hEo (Nat.le_refl _) Ha.out HX.out.2.2.2 HX.out.2.2.1 (by have := Hc1.out; omega) Hc2.out)
    have hwr : IntKind.i64.wrap ((l1 : Int) + (m : Int)) = (l1 : Int) + (m : Int) := by have := Hc1.out; rw [IntKind.wrap_i64]; omega
    have hwm : IntKind.i64.wrap (m : Int) = (m : Int) := by rw [IntKind.wrap_i64]; omega
    clear h2 hEo kA c0 c0d cA HAd
    rcases Hc1.out with ⟨a1, hc, hl⟩ | ⟨a1, hc, hl⟩
    · have d1 : decide ((n : Int) ≤ 200) = true := decide_eq_true (by omega)
      subst hc hl
      go_wp2_with fail
      go_region_law
        (first
          | (go_simp; go_at_call 34; refine HA2.out.mono ?_; rintro e w3 ⟨rfl, h3⟩))
      all_goals
        have s3 : w3.cell? ⟨C, 0, none⟩ = some (.pointer (some ⟨K, 0, none⟩)) := h3.wd
        have HL := Lib.hid (h3.left Ha.out)
        have HAw := Lib.hid (awake25 w3)
        have HK3 := Lib.hid (Up.chg0 HX.out.1 h3.1 HX.out.2.1)
        clear h3 s2 s2d sA HA2
        rcases Hc2.out with ⟨a2, hc2, hl2⟩ | ⟨a2, hc2, hl2⟩
        · have d2 : decide ((l1 : Int) + (m : Int) ≤ 200) = true := decide_eq_true (by omega)
          have d3 : decide ((m : Int) ≤ 200) = true := decide_eq_true (by omega)
          subst hc2 hl2
          go_wp2_with fail
          refine HL.out.mono ?_
          rintro e w4 ⟨rfl, rfl⟩
          go_wp2_with fail
          refine HAw.out.mono ?_
          rintro e w5 ⟨rfl, k5⟩
          have k6 := Lib.hid (HK3.out.then k5)
          clear k5
          go_wp2_with fail
          go_ret
          exact ⟨rfl, k6.out⟩
        · have d2 : decide ((l1 : Int) + (m : Int) ≤ 200) = false := decide_eq_false (by omega)
          have d3 : True := trivial
          subst hc2 hl2
          go_wp2_with fail
          refine HL.out.mono ?_
          rintro e w4 ⟨rfl, rfl⟩
          go_wp2_with fail
          refine HAw.out.mono ?_
          rintro e w5 ⟨rfl, k5⟩
          have k6 := Lib.hid (HK3.out.then k5)
          clear k5
          go_wp2_with fail
          go_ret
          exact ⟨rfl, k6.out⟩
    · have d1 : decide ((n : Int) ≤ 200) = false := decide_eq_false (by omega)
      subst hc hl
      go_wp2_with fail
      go_region_law
        (first
          | (go_simp; go_at_call 34; refine HA2.out.mono ?_; rintro e w3 ⟨rfl, h3⟩))
      all_goals
        have s3 : w3.cell? ⟨C, 0, none⟩ = some (.pointer (some ⟨K, 0, none⟩)) := h3.wd
        have HL := Lib.hid (h3.left Ha.out)
        have HAw := Lib.hid (awake25 w3)
        have HK3 := Lib.hid (Up.chg0 HX.out.1 h3.1 HX.out.2.1)
        clear h3 s2 s2d sA HA2
        rcases Hc2.out with ⟨a2, hc2, hl2⟩ | ⟨a2, hc2, hl2⟩
        · have d2 : decide (((0 : Nat) : Int) + (m : Int) ≤ 200) = true := decide_eq_true (by omega)
          have d3 : decide ((m : Int) ≤ 200) = true := decide_eq_true (by omega)
          subst hc2 hl2
          go_wp2_with fail
          refine HL.out.mono ?_
          rintro e w4 ⟨rfl, rfl⟩
          go_wp2_with fail
          refine HAw.out.mono ?_
          rintro e w5 ⟨rfl, k5⟩
          have k6 := Lib.hid (HK3.out.then k5)
          clear k5
          go_wp2_with fail
          go_ret
          exact ⟨rfl, k6.out⟩
        · have d2 : decide (((0 : Nat) : Int) + (m : Int) ≤ 200) = false := decide_eq_false (by omega)
          have d3 : decide ((m : Int) ≤ 200) = false := decide_eq_false (by omega)
          subst hc2 hl2
          go_wp2_with fail
          refine HL.out.mono ?_
          rintro e w4 ⟨rfl, rfl⟩
          go_wp2_with fail
          refine HAw.out.mono ?_
          rintro e w5 ⟨rfl, k5⟩
          have k6 := Lib.hid (HK3.out.then k5)
          clear k5
          go_wp2_with fail
          go_ret
          exact ⟨rfl, k6.out⟩
end Go.Proofs.YtkhionhicegfmaaGreat
namespace Go.Proofs.YtkhionhicegfmaaGreat
open Go.ChangeShapes Go.WideShapes Go.ChangeAt Go.RowKit Go.Deep Go.Joins
set_option maxRecDepth 100000

theorem ownk : ownKnob Tryz.prog.godebug = none := by kernel_rfl
/-- what a contract with 'Below' gives of a row's sentence. -/
theorem post_below {H : Type} {enc : TypeId × Value → H} {f : Func} {s : ChangeSpec} {W W' : World} {args : Array Value} {v : Value} {ds gs : List (DataW H)} {before pa pv : List MemPlace} (hb : Below W.heap.size W W')
    (hW : DataW.Whole enc Tryz.prog f.params.toList s.vars false W args.toList ds gs before)
    (hres : DataW.TrodAll enc Tryz.prog W' W.heap.size (fun _ => false) false f.resultTypes.toList (v.resultList f.resultTypes.size) (s.fn H (ds ++ gs)).results [])
    (hargs : DataW.TrodAll enc Tryz.prog W' 0 (fun b => decide (b < W.heap.size)) true f.params.toList args.toList (s.fn H (ds ++ gs)).args pa)
    (hvars : DataW.TrodVars enc Tryz.prog W' (fun b => decide (b < W.heap.size)) s.vars (s.fn H (ds ++ gs)).vars pv) :
    s.post enc Tryz.prog f false true false false W args v W' :=
  ⟨ds, gs, before, [], pa, pv, hW, hres, hargs, hvars, hb.frame _, fun h => by cases h⟩

end Go.Proofs.YtkhionhicegfmaaGreat
namespace Go.Proofs.YtkhionhicegfmaaGreat
open Go.ChangeShapes Go.WideShapes Go.ChangeAt Go.RowKit Go.Deep Go.Joins
set_option maxRecDepth 100000
theorem law7_any (a n m : Int) (w : World) : Calls Tryz.prog 7 #[.int .i64 a, .int .i64 n, .int .i64 m] w fun e w' => e = .returned (.bool true) ∧ Chg [] w w' := by
  by_cases h : n < 0 ∨ 210 < n ∨ m < 0 ∨ 210 < m
  · exact law7_far a n m w h
  obtain ⟨k, rfl⟩ : ∃ k : Nat, n = k := ⟨n.toNat, by omega⟩
  obtain ⟨l, rfl⟩ : ∃ l : Nat, m = l := ⟨m.toNat, by omega⟩
  by_cases ha : 1 ≤ a ∧ a ≤ 8
  · by_cases h1 : k ≤ 200
    · by_cases h2 : k + l ≤ 200
      · exact law7_in a k l 0 k 0 (k + l) w (by omega) (by omega) ha (Or.inl ⟨h1, rfl, rfl⟩) (Or.inl ⟨h2, rfl, rfl⟩)
      · exact law7_in a k l 0 k 7 k w (by omega) (by omega) ha (Or.inl ⟨h1, rfl, rfl⟩) (Or.inr ⟨by omega, rfl, rfl⟩)
    · by_cases h2 : 0 + l ≤ 200
      · exact law7_in a k l 7 0 0 (0 + l) w (by omega) (by omega) ha (Or.inr ⟨by omega, rfl, rfl⟩) (Or.inl ⟨h2, rfl, rfl⟩)
      · exact law7_in a k l 7 0 7 0 w (by omega) (by omega) ha (Or.inr ⟨by omega, rfl, rfl⟩) (Or.inr ⟨by omega, rfl, rfl⟩)
  · exact law7_out a k l w (by omega) (by omega) (by omega)
namespace Law7
theorem contract (H : Type) (enc : TypeId × Value → H) (W : World) (base : Nat) (args : Array Value) (ds gs : List (DataW H)) (before : List MemPlace)
    (hval : ∀ (j : Nat) t v, Tryz.f7.params[j]? = some t → args[j]? = some v → Value.okWide Tryz.prog W .any base t v)
    (hW : DataW.Whole enc Tryz.prog Tryz.f7.params.toList Rows.schedAddsSpec.vars false W args.toList ds gs before) :
    Calls Tryz.prog 7 args W fun e W' => ∃ v, e = .returned v ∧ Rows.schedAddsSpec.post enc Tryz.prog Tryz.f7 false true false false W args v W' := by
  have hW' := hW
  obtain ⟨p, q, hA0, hV, rfl, hfz, hnd⟩ := hW
  have hA : DataW.TrodAll enc Tryz.prog W 0 (fun _ => true) true Tryz.f7.params.toList args.toList ds p := hA0
  rw [Tryz.params7] at hA hval
  obtain ⟨v0, vs0, d0, ds0, p0, q0, hargs, rfl, rfl, h0, r0⟩ := trodAll_cons hA
  obtain ⟨v1, vs1, d1, ds1, p1, q1, rfl, rfl, rfl, h1, r1⟩ := trodAll_cons r0
  obtain ⟨v2, vs2, d2, ds2, p2, q2, rfl, rfl, rfl, h2, r2⟩ := trodAll_cons r1
  obtain ⟨rfl, rfl, rfl⟩ := trodAll_nil r2
  obtain rfl : args = #[v0, v1, v2] := by cases args; simp_all
  obtain ⟨rfl, rfl⟩ := trodVars_none hV
  obtain ⟨a0, rfl, rfl, rfl, w0⟩ := open_int Tryz.underlying3 (hval 0 3 v0 rfl rfl) h0
  obtain ⟨a1, rfl, rfl, rfl, w1⟩ := open_int Tryz.underlying3 (hval 1 3 v1 rfl rfl) h1
  obtain ⟨a2, rfl, rfl, rfl, w2⟩ := open_int Tryz.underlying3 (hval 2 3 v2 rfl rfl) h2
  refine (law7_any a0 a1 a2 W).mono fun e W' ⟨he, hc⟩ => ?_
  subst he
  exact ⟨_, rfl, post_below hc.below0 hW' (trodAll_mk1 (shut_bool Tryz.underlying4 _)) (trodAll_cons_mk (shut_int Tryz.underlying3 w0) (trodAll_cons_mk (shut_int Tryz.underlying3 w1) (trodAll_cons_mk (shut_int Tryz.underlying3 w2) trodAll_mk0))) rfl⟩
theorem lifted (os : Os) (started : os.Started) (H : Type) (enc : TypeId × Value → H) :
    ReturnsInHanded {} Tryz.checked os 7 .any (Rows.schedAddsSpec.pre6 enc Tryz.prog Tryz.f7 Rows.schedAddsRow.domain false) (Rows.schedAddsSpec.post enc Tryz.prog Tryz.f7 false true false false) := by
  refine returnsInHanded_of_change (C := Tryz.checked) ownk started (by kernel_rfl) Tryz.func7
    (ChangeSpec.witness6 (enc := enc) (C := Tryz.checked) false ⟨#[], #[.int .i64 0, .int .i64 0, .int .i64 0], []⟩ 8 (by kernel_rfl) (by kernel_rfl) (by kernel_rfl) (by kernel_rfl)) ?_
  intro W base args ds gs before hval0 hW hcnd _
  exact contract H enc W base args ds gs before hval0 hW
theorem over : Rows.schedAddsRow.holds Tryz.pinned (OpenSpec.ofChange Rows.schedAddsSpec) :=
  OpenClaim.holds_of_wide 7 Tryz.f7 rfl rfl rfl rfl rfl rfl rfl ⟨rfl, rfl, rfl, rfl, rfl⟩ rfl rfl rfl rfl rfl (by kernel_rfl) Tryz.func7 (by kernel_rfl)
    (of_decide_eq_true (by kernel_rfl)) (by unfold Func.isWrapper; first | (rw [if_pos (by decide +kernel)]; kernel_rfl) | (rw [if_neg (by decide +kernel)]; exact ⟨rfl, rfl⟩))
    (fun os started H enc _ => lifted os started H enc)
theorem said : Rows.SchedAddsSaid := over
end Law7
end Go.Proofs.YtkhionhicegfmaaGreat
