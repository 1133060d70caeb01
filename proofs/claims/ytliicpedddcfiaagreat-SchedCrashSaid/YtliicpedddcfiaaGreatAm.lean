/- Lemmas and walks: Walks: a schedule's Crash, where one transaction was begun and nothing was flushed. Printed by mkKo.py. Walks: the histories of a schedule with a begin that a crash ended and one that is open. Printed by mkLa.py. Walks: the second client's stages: it begins, writes, asks to commit. Walks: more ops wait, at the second client's stages; what a crash asks of a stage; Crash at a stage. Walks: an op on a transaction that a crash ended. Printed by mkKe.py. An op that reads, done on a client's second transaction. Printed by mkKg.py. Walks: two answers without bytes are compared. Walks: the bytes that hang on a number, told exactly (scarpalike.Data); like bytes are found alike (scarpalike.Bytes). Walks: an answer with bytes is kept, and compared. A step that tells a block's bytes. Printed by mkKh.py. -/
import Derived.Deep.QuietTactic
import Derived.Test.YtliicpedddcfiaaGreatAh
import Derived.Test.YtliicpedddcfiaaGreatAi
import Derived.Test.YtliicpedddcfiaaGreatAj
import Derived.Test.YtliicpedddcfiaaGreatAk
import Derived.Test.YtliicpedddcfiaaGreatAl
namespace Go.Proofs.YtliicpedddcfiaaGreat
open Go.RowKit Go.Lib

/-- a begin that a crash ended. -/
def deadC (fr t0 st t tm : Int) (v v2 : Value) : Array Value := #[.int .i64 0, .int .i64 fr, .int .i64 t0, .int .i64 st, .int .i64 t, .int .i64 tm, .int .i64 0, .int .i64 0, v, v2]
theorem set_dead {w : World} {Bb n c n2 c2 : Nat} {p p2 : Option Addr} {h fr t0 st t tm : Int} (hb : w.heap[Bb]? = some (.cells (begC h fr t0) 85 (0, 0))) :
    ((((((((w.setCell ⟨Bb, 3, none⟩ (.int .i64 st)).setCell ⟨Bb, 4, none⟩ (.int .i64 t)).setCell ⟨Bb, 5, none⟩ (.int .i64 tm)).setCell ⟨Bb, 6, none⟩ (.int .i64 0)).setCell ⟨Bb, 7, none⟩ (.int .i64 0)).setCell ⟨Bb, 8, none⟩ (.slice p n c)).setCell ⟨Bb, 9, none⟩ (.slice p2 n2 c2)).setCell ⟨Bb, 0, none⟩ (.int .i64 0)).heap[Bb]? = some (.cells (deadC fr t0 st t tm (.slice p n c) (.slice p2 n2 c2)) 85 (0, 0)) ∧ Chg [Bb] w ((((((((w.setCell ⟨Bb, 3, none⟩ (.int .i64 st)).setCell ⟨Bb, 4, none⟩ (.int .i64 t)).setCell ⟨Bb, 5, none⟩ (.int .i64 tm)).setCell ⟨Bb, 6, none⟩ (.int .i64 0)).setCell ⟨Bb, 7, none⟩ (.int .i64 0)).setCell ⟨Bb, 8, none⟩ (.slice p n c)).setCell ⟨Bb, 9, none⟩ (.slice p2 n2 c2)).setCell ⟨Bb, 0, none⟩ (.int .i64 0)) := by
  have e : w.heap[Bb]? = some (.cells #[.int .i64 h, .int .i64 fr, .int .i64 t0, .int .i64 0, .int .i64 0, .int .i64 0, .int .i64 0, .int .i64 0, .slice none 0 0, .slice none 0 0] 85 (0, 0)) := hb
  replace e : (w.setCell ⟨Bb, 3, none⟩ (.int .i64 st)).heap[Bb]? = some (.cells #[.int .i64 h, .int .i64 fr, .int .i64 t0, .int .i64 st, .int .i64 0, .int .i64 0, .int .i64 0, .int .i64 0, .slice none 0 0, .slice none 0 0] 85 (0, 0)) := heap_set e 3 _ rfl
  replace e : ((w.setCell ⟨Bb, 3, none⟩ (.int .i64 st)).setCell ⟨Bb, 4, none⟩ (.int .i64 t)).heap[Bb]? = some (.cells #[.int .i64 h, .int .i64 fr, .int .i64 t0, .int .i64 st, .int .i64 t, .int .i64 0, .int .i64 0, .int .i64 0, .slice none 0 0, .slice none 0 0] 85 (0, 0)) := heap_set e 4 _ rfl
  replace e : (((w.setCell ⟨Bb, 3, none⟩ (.int .i64 st)).setCell ⟨Bb, 4, none⟩ (.int .i64 t)).setCell ⟨Bb, 5, none⟩ (.int .i64 tm)).heap[Bb]? = some (.cells #[.int .i64 h, .int .i64 fr, .int .i64 t0, .int .i64 st, .int .i64 t, .int .i64 tm, .int .i64 0, .int .i64 0, .slice none 0 0, .slice none 0 0] 85 (0, 0)) := heap_set e 5 _ rfl
  replace e : ((((w.setCell ⟨Bb, 3, none⟩ (.int .i64 st)).setCell ⟨Bb, 4, none⟩ (.int .i64 t)).setCell ⟨Bb, 5, none⟩ (.int .i64 tm)).setCell ⟨Bb, 6, none⟩ (.int .i64 0)).heap[Bb]? = some (.cells #[.int .i64 h, .int .i64 fr, .int .i64 t0, .int .i64 st, .int .i64 t, .int .i64 tm, .int .i64 0, .int .i64 0, .slice none 0 0, .slice none 0 0] 85 (0, 0)) := heap_set e 6 _ rfl
  replace e : (((((w.setCell ⟨Bb, 3, none⟩ (.int .i64 st)).setCell ⟨Bb, 4, none⟩ (.int .i64 t)).setCell ⟨Bb, 5, none⟩ (.int .i64 tm)).setCell ⟨Bb, 6, none⟩ (.int .i64 0)).setCell ⟨Bb, 7, none⟩ (.int .i64 0)).heap[Bb]? = some (.cells #[.int .i64 h, .int .i64 fr, .int .i64 t0, .int .i64 st, .int .i64 t, .int .i64 tm, .int .i64 0, .int .i64 0, .slice none 0 0, .slice none 0 0] 85 (0, 0)) := heap_set e 7 _ rfl
  replace e : ((((((w.setCell ⟨Bb, 3, none⟩ (.int .i64 st)).setCell ⟨Bb, 4, none⟩ (.int .i64 t)).setCell ⟨Bb, 5, none⟩ (.int .i64 tm)).setCell ⟨Bb, 6, none⟩ (.int .i64 0)).setCell ⟨Bb, 7, none⟩ (.int .i64 0)).setCell ⟨Bb, 8, none⟩ (.slice p n c)).heap[Bb]? = some (.cells #[.int .i64 h, .int .i64 fr, .int .i64 t0, .int .i64 st, .int .i64 t, .int .i64 tm, .int .i64 0, .int .i64 0, .slice p n c, .slice none 0 0] 85 (0, 0)) := heap_set e 8 _ rfl
  replace e : (((((((w.setCell ⟨Bb, 3, none⟩ (.int .i64 st)).setCell ⟨Bb, 4, none⟩ (.int .i64 t)).setCell ⟨Bb, 5, none⟩ (.int .i64 tm)).setCell ⟨Bb, 6, none⟩ (.int .i64 0)).setCell ⟨Bb, 7, none⟩ (.int .i64 0)).setCell ⟨Bb, 8, none⟩ (.slice p n c)).setCell ⟨Bb, 9, none⟩ (.slice p2 n2 c2)).heap[Bb]? = some (.cells #[.int .i64 h, .int .i64 fr, .int .i64 t0, .int .i64 st, .int .i64 t, .int .i64 tm, .int .i64 0, .int .i64 0, .slice p n c, .slice p2 n2 c2] 85 (0, 0)) := heap_set e 9 _ rfl
  replace e : ((((((((w.setCell ⟨Bb, 3, none⟩ (.int .i64 st)).setCell ⟨Bb, 4, none⟩ (.int .i64 t)).setCell ⟨Bb, 5, none⟩ (.int .i64 tm)).setCell ⟨Bb, 6, none⟩ (.int .i64 0)).setCell ⟨Bb, 7, none⟩ (.int .i64 0)).setCell ⟨Bb, 8, none⟩ (.slice p n c)).setCell ⟨Bb, 9, none⟩ (.slice p2 n2 c2)).setCell ⟨Bb, 0, none⟩ (.int .i64 0)).heap[Bb]? = some (.cells #[.int .i64 0, .int .i64 fr, .int .i64 t0, .int .i64 st, .int .i64 t, .int .i64 tm, .int .i64 0, .int .i64 0, .slice p n c, .slice p2 n2 c2] 85 (0, 0)) := heap_set e 0 _ rfl
  exact ⟨e, (((((((Chg.set _ _ _ _).then (Chg.set _ _ _ _)).then (Chg.set _ _ _ _)).then (Chg.set _ _ _ _)).then (Chg.set _ _ _ _)).then (Chg.set _ _ _ _)).then (Chg.set _ _ _ _)).then (Chg.set _ _ _ _)⟩
/-- what is kept while blocks of these types change. -/
def KX (ts : List Nat) (P : Value → World → Prop) : Prop := ∀ v a b S, P v a → Chg S a b → Tp a S ts → P v b
/-- what a crash leaves. -/
def CrR (w w' : World) (K Bb : Nat) (o' bv av al : Value) (ev fr t0 st tm t : Int) (PR PP : Value → World → Prop) : Prop :=
  ∃ d b ops p n c p2 n2 c2, Sto w' b d (s00 b) (g00 b ops) ∧ (0 ≤ ops ∧ ops ≤ 2) ∧ w.heap.size ≤ b ∧ b ≤ w'.heap.size ∧ SchB w' K (C2.sch d.N d.P o' bv av false al ev) ∧ w'.heap[Bb]? = some (.cells (deadC fr t0 st t tm (.slice p n c) (.slice p2 n2 c2)) 85 (0, 0)) ∧
    PR (.slice p n c) w' ∧ PP (.slice p2 n2 c2) w' ∧ Chg [K, Bb] w w'
set_option maxRecDepth 100000 in
set_option maxHeartbeats 8000000 in
theorem scrash_ok (w : World) {K lw Bb ga ca : Nat} {d : Ids} {s : Gs} {ops ev h fr t0 st tm t : Int} {o o' bv av al : Value} {q : Bool} {PR PP : Value → World → Prop} (hS : Sto w lw d s (g00 lw ops)) (hB : SchB w K (C2.sch d.N d.P o bv av q al ev)) (hev : 0 ≤ ev ∧ ev ≤ 1000000)
    (hal : al = .slice (some ⟨ga, 0, none⟩) 1 ca) (ga0 : w.cell? ⟨ga, 0, none⟩ = some (.pointer (some ⟨Bb, 0, none⟩))) (hgK : ga ≠ K) (hb : w.heap[Bb]? = some (.cells (begC h fr t0) 85 (0, 0))) (hh : 0 < h)
    (ho : (q = false ∧ o' = o) ∨ (q = true ∧ ∃ g off m c, o = .slice (some ⟨g, off, none⟩) (m + 1) c ∧ m + 1 ≤ c ∧ o' = cutV g off m c)) (kR : KX [51] PR) (kP : KX [51] PP) (kR2 : KX [72, 85] PR) (kP2 : KX [72, 85] PP)
    (HH : ∀ wx, Chg [K] w wx → Calls Tryz.prog 30 #[.pointer (some ⟨d.P, 0, none⟩), .int .i64 h] wx (HiR wx st tm t PR PP)) :
    Calls Tryz.prog 14 #[.pointer (some ⟨K, 0, none⟩), .slice none 0 0, .slice none 0 0] w fun e w' => e = .returned (.int .i64 0) ∧ CrR w w' K Bb o' bv av al (ev + 1) fr t0 (endS st) tm t PR PP := by
  have HG := Lib.hid (sgone_any w hB rfl)
  have c35 : w.cell? ⟨K, 35, none⟩ = some (.int .i64 ev) := cell_is hB 35 rfl
  have f35 := unfrozen hB 35
  have n1 : IntKind.i64.wrap (ev + 1) = ev + 1 := by rw [IntKind.wrap_i64]; omega
  have B1 : SchB (w.setCell ⟨K, 35, none⟩ (.int .i64 (ev + 1))) K (C2.sch d.N d.P o bv av q al (ev + 1)) := heap_set hB 35 _ rfl
  have k1 : Chg [K] w (w.setCell ⟨K, 35, none⟩ (.int .i64 (ev + 1))) := Chg.set _ _ _ _
  have tK : Tp w [K] [72] := chgK hB
  have S1 := hS.keepA k1 (tK.av (by decide)) (tK.map hS.mx.ver.m) (tK.map hS.mx.book.2) (tK.map hS.mx.map)
  have hBK : Bb ≠ K := heap_ne hb hB (by simp)
  have b1 := k1.heap hb (by simpa using hBK)
  have ga1 := k1.cell ga0 (by simpa using hgK)
  have HX := Lib.hid (And.intro HH (And.intro kR (And.intro kP (And.intro kR2 (And.intro kP2 ho)))))
  clear hS hb ga0 HH kR kP kR2 kP2 ho tK hev
  subst hal
  go_enter Tryz.func14, Tryz.ntmps14
  go_wp2_with fail
  refine HG.out.mono ?_
  rintro e w1 ⟨rfl, rfl⟩
  go_upto_region 4 with fail
  clear c35 f35 n1 HG hB
  generalize w.setCell ⟨K, 35, none⟩ (.int .i64 (ev + 1)) = w1 at *
  have c0 : w1.cell? ⟨K, 0, none⟩ = some (.pointer (some ⟨d.N, 0, none⟩)) := cell_is B1 0 rfl
  have HC := Lib.hid (crash0 w1 S1)
  clear S1
  go_wp2_with fail
  refine HC.out.mono ?_
  rintro e w2 ⟨N', rfl, k2, hD⟩
  have HM := Lib.hid (mount0 w2 hD k2 (Nat.le_refl _) k2.size)
  clear hD c0 HC
  go_wp2_with fail
  refine HM.out.mono ?_
  rintro e w3 ⟨d2, ops2, rfl, hN, S3, hops, k3⟩
  have B3 : SchB w3 K _ := k3.heap B1 (by simp)
  have b3 := k3.heap b1 (by simp)
  have ga3 := k3.cell ga1 (by simp)
  have c34 : w3.cell? ⟨K, 34, none⟩ = some (.slice (some ⟨ga, 0, none⟩) 1 ca) := cell_is B3 34 rfl
  have hsz : w.heap.size ≤ w1.heap.size := k1.size
  have k13 := k1.trans k3 (fun x hx => by cases hx)
  subst hN
  have HS3 := Lib.hid (And.intro S3 (And.intro hops (And.intro k13 (And.intro hsz k3.size))))
  clear HM S3 hops k1 k3 k13 k2 B1 b1 ga1 hsz
  generalize w1.heap.size = b at *
  go_wp2_with fail
  go_loopw [11, 43] (fun _ i wr => (i = .int .i64 0 ∧ w3 = wr) ∨ (i = .int .i64 1 ∧ ∃ p n c p2 n2 c2, Chg [Bb] w3 wr ∧ wr.heap[Bb]? = some (.cells (deadC fr t0 (endS st) t tm (.slice p n c) (.slice p2 n2 c2)) 85 (0, 0)) ∧ PR (.slice p n c) wr ∧ PP (.slice p2 n2 c2) wr)) (fun _ i _ => 1 - (intOf i).toNat)
  case atStart => exact Or.inl ⟨rfl, rfl⟩
  case round =>
    rcases hrel with ⟨rfl, rfl⟩ | ⟨rfl, p, n, c, p2, n2, c2, k4, b4, hR, hP⟩
    · have bc0 : w3.cell? ⟨Bb, 0, none⟩ = some (.int .i64 h) := cell_is b3 0 rfl
      have n2 : decide (0 < h) = true := decide_eq_true hh
      have HE := Lib.hid (ended_ok w3 (K := K) (P := d.P) (Bb := Bb) B3 rfl b3 rfl HX.out.2.1 HX.out.2.2.1 (fun wx kx => HX.out.1 wx (HS3.out.2.2.1.trans kx (fun x hx => by cases hx))))
      go_wp2_with (first
        | (go_at_call 28; refine HE.out.mono ?_; rintro e w4 ⟨p, n, c, p2, n2, c2, rfl, k4, hR, hP⟩; have b4 := k4.heap b3 (by simp)
           have u3 : w4.cell? ⟨Bb, 3, none⟩ = some (.int .i64 0) := cell_is b4 3 rfl; have x3 := unfrozen b4 3
           have u4 : w4.cell? ⟨Bb, 4, none⟩ = some (.int .i64 0) := cell_is b4 4 rfl; have x4 := unfrozen b4 4
           have u5 : w4.cell? ⟨Bb, 5, none⟩ = some (.int .i64 0) := cell_is b4 5 rfl; have x5 := unfrozen b4 5
           have u6 : w4.cell? ⟨Bb, 6, none⟩ = some (.int .i64 0) := cell_is b4 6 rfl; have x6 := unfrozen b4 6
           have u7 : w4.cell? ⟨Bb, 7, none⟩ = some (.int .i64 0) := cell_is b4 7 rfl; have x7 := unfrozen b4 7
           have u8 : w4.cell? ⟨Bb, 8, none⟩ = some (.slice none 0 0) := cell_is b4 8 rfl; have x8 := unfrozen b4 8
           have u9 : w4.cell? ⟨Bb, 9, none⟩ = some (.slice none 0 0) := cell_is b4 9 rfl; have x9 := unfrozen b4 9
           have u0 : w4.cell? ⟨Bb, 0, none⟩ = some (.int .i64 h) := cell_is b4 0 rfl; have x0 := unfrozen b4 0))
      obtain ⟨b5, k5⟩ := set_dead (n := n) (c := c) (n2 := n2) (c2 := c2) (p := p) (p2 := p2) (st := endS st) (t := t) (tm := tm) b4
      have tB : Tp w4 [Bb] [72, 85] := fun x hx => by
        rw [List.mem_singleton] at hx
        subst hx
        exact ⟨_, _, b4, by simp⟩
      have HF := Lib.hid (And.intro ((k4.mono (fun x hx _ => by cases hx)).then k5) (And.intro b5 (And.intro (HX.out.2.2.2.1 _ _ _ _ hR k5 tB) (HX.out.2.2.2.2.1 _ _ _ _ hP k5 tB))))
      clear b5 k5 tB hR hP k4 b4 HE
      go_roundw
      case rel => exact Or.inr ⟨rfl, p, n, c, p2, n2, c2, HF.out⟩
      case measure => decide
    · have B4 : SchB wr K _ := k4.heap B3 (by simpa using Ne.symm hBK)
      have HF := Lib.hid (And.intro k4 (And.intro b4 (And.intro hR hP)))
      clear k4 b4 hR hP ga3 c34
      rcases HX.out.2.2.2.2.2 with ⟨e1, e2⟩ | ⟨e1, g, off, m, cc, e2, hc, e3⟩
      · subst e1
        subst e2
        have a5 : wr.cell? ⟨K, 5, none⟩ = some (.bool false) := cell_is B4 5 rfl
        have a9 : wr.cell? ⟨K, 9, none⟩ = some (.bool false) := cell_is B4 9 rfl
        have a13 : wr.cell? ⟨K, 13, none⟩ = some (.bool false) := cell_is B4 13 rfl
        have a17 : wr.cell? ⟨K, 17, none⟩ = some (.bool false) := cell_is B4 17 rfl
        have a21 : wr.cell? ⟨K, 21, none⟩ = some (.bool false) := cell_is B4 21 rfl
        have a25 : wr.cell? ⟨K, 25, none⟩ = some (.bool false) := cell_is B4 25 rfl
        have a29 : wr.cell? ⟨K, 29, none⟩ = some (.bool false) := cell_is B4 29 rfl
        have a33 : wr.cell? ⟨K, 33, none⟩ = some (.bool false) := cell_is B4 33 rfl
        go_wp2_with fail
        go_loopw [12, 13, 62] (fun _ _ i wx => (i = .int .i64 0 ∨ i = .int .i64 1 ∨ i = .int .i64 2 ∨ i = .int .i64 3 ∨ i = .int .i64 4 ∨ i = .int .i64 5 ∨ i = .int .i64 6 ∨ i = .int .i64 7 ∨ i = .int .i64 8) ∧ wr = wx) (fun _ _ i _ => 8 - (intOf i).toNat)
        case atStart => exact ⟨Or.inl rfl, rfl⟩
        case round =>
          obtain ⟨hi, rfl⟩ := hrel
          rcases hi with rfl | rfl | rfl | rfl | rfl | rfl | rfl | rfl | rfl
          iterate 8
            · go_wp2_with fail
              go_roundw
              case rel => exact ⟨by simp, trivial⟩
              case measure => decide
          · have g0 : wr.cell? ⟨K, 0, none⟩ = some (.pointer (some ⟨d.N, 0, none⟩)) := cell_is B4 0 rfl
            have g1 : wr.cell? ⟨K, 1, none⟩ = some (.pointer (some ⟨d.P, 0, none⟩)) := cell_is B4 1 rfl
            have h0 := unfrozen B4 0
            have h1 := unfrozen B4 1
            have B7 : SchB ((wr.setCell ⟨K, 0, none⟩ (.pointer (some ⟨d2.N, 0, none⟩))).setCell ⟨K, 1, none⟩ (.pointer (some ⟨d2.P, 0, none⟩))) K (C2.sch d2.N d2.P o' bv av false (.slice (some ⟨ga, 0, none⟩) 1 ca) (ev + 1)) := heap_set (heap_set B4 0 _ rfl) 1 _ rfl
            have k7 : Chg [K] wr ((wr.setCell ⟨K, 0, none⟩ (.pointer (some ⟨d2.N, 0, none⟩))).setCell ⟨K, 1, none⟩ (.pointer (some ⟨d2.P, 0, none⟩))) := (Chg.set _ _ _ _).then (Chg.set _ _ _ _)
            have HB7 := Lib.hid (And.intro B7 k7)
            have HB3 := Lib.hid (And.intro B3 (And.intro b3 B4))
            clear B7 k7 B3 b3 B4
            go_wp2_with fail
            go_ret
            obtain ⟨B7, k7⟩ := HB7.out
            obtain ⟨B3, b3, B4⟩ := HB3.out
            obtain ⟨k4, b4, hR, hP⟩ := HF.out
            obtain ⟨S3, hops, k13, hsz, hs3⟩ := HS3.out
            have kr : Chg [K] wr _ := (Chg.refl [K] wr).then k7
            have tr : Tp wr [K] [72, 85] := fun x hx => by
              rw [List.mem_singleton] at hx
              subst hx
              exact ⟨_, _, B4, by simp⟩
            have kt := (k4.mono (T := [K, Bb]) (fun x hx _ => by simp at hx; simp [hx])).then (kr.mono (fun x hx _ => by simp at hx; simp [hx]))
            have tt : Tp w3 [K, Bb] [72, 85] := fun x hx => by
              simp at hx
              rcases hx with rfl | rfl
              · exact ⟨_, _, B3, by simp⟩
              · exact ⟨_, _, b3, by simp⟩
            exact ⟨rfl, d2, b, ops2, p, n, c, p2, n2, c2, S3.keepA kt (tt.av (by decide)) (tt.map S3.mx.ver.m) (tt.map S3.mx.book.2) (tt.map S3.mx.map), hops, hsz, Nat.le_trans hs3 kt.size, B7, kr.heap b4 (by simpa using hBK), HX.out.2.2.2.1 _ _ _ _ hR kr tr, HX.out.2.2.2.2.1 _ _ _ _ hP kr tr, (k13.mono (fun x hx _ => by simp at hx; simp [hx])).then kt⟩
      · subst e1
        subst e2
        subst e3
        have a5 : wr.cell? ⟨K, 5, none⟩ = some (.bool false) := cell_is B4 5 rfl
        have a9 : wr.cell? ⟨K, 9, none⟩ = some (.bool true) := cell_is B4 9 rfl
        have a13 : wr.cell? ⟨K, 13, none⟩ = some (.bool false) := cell_is B4 13 rfl
        have a17 : wr.cell? ⟨K, 17, none⟩ = some (.bool false) := cell_is B4 17 rfl
        have a21 : wr.cell? ⟨K, 21, none⟩ = some (.bool false) := cell_is B4 21 rfl
        have a25 : wr.cell? ⟨K, 25, none⟩ = some (.bool false) := cell_is B4 25 rfl
        have a29 : wr.cell? ⟨K, 29, none⟩ = some (.bool false) := cell_is B4 29 rfl
        have a33 : wr.cell? ⟨K, 33, none⟩ = some (.bool false) := cell_is B4 33 rfl
        have a6 : wr.cell? ⟨K, 6, none⟩ = some (.slice (some ⟨g, off, none⟩) (m + 1) cc) := cell_is B4 6 rfl
        have f6 := unfrozen B4 6
        have f9 := unfrozen B4 9
        have B5 : SchB ((wr.setCell ⟨K, 6, none⟩ (cutV g off m cc)).setCell ⟨K, 9, none⟩ (.bool false)) K (C2.sch d.N d.P (cutV g off m cc) bv av false (.slice (some ⟨ga, 0, none⟩) 1 ca) (ev + 1)) := heap_set (heap_set B4 6 _ rfl) 9 _ rfl
        have k5 : Chg [K] wr ((wr.setCell ⟨K, 6, none⟩ (cutV g off m cc)).setCell ⟨K, 9, none⟩ (.bool false)) := (Chg.set _ _ _ _).then (Chg.set _ _ _ _)
        have hcut : cutV g off m cc = .slice (if cc = 1 then some ⟨g, off, none⟩ else some ⟨g, off + 5, none⟩) m (cc - 1) := rfl
        have HE5 : Hid (∃ wE, wE = ((wr.setCell ⟨K, 6, none⟩ (cutV g off m cc)).setCell ⟨K, 9, none⟩ (.bool false)) ∧ SchB wE K (C2.sch d.N d.P (cutV g off m cc) bv av false (.slice (some ⟨ga, 0, none⟩) 1 ca) (ev + 1)) ∧ Chg [K] wr wE) := Lib.hid ⟨_, rfl, B5, k5⟩
        obtain ⟨wE, hwE, BE, kE⟩ := HE5.out
        have HWE := Lib.hid (And.intro hwE (And.intro BE kE))
        have HB4 := Lib.hid B4
        clear B5 k5 HE5 hwE BE kE B4
        go_wp2_with fail
        go_loopw [12, 13, 62] (fun _ _ i wx => ((i = .int .i64 0 ∨ i = .int .i64 1) ∧ wr = wx) ∨ ((i = .int .i64 2 ∨ i = .int .i64 3 ∨ i = .int .i64 4 ∨ i = .int .i64 5 ∨ i = .int .i64 6 ∨ i = .int .i64 7 ∨ i = .int .i64 8) ∧ wE = wx)) (fun _ _ i _ => 8 - (intOf i).toNat)
        case atStart => exact Or.inl ⟨Or.inl rfl, rfl⟩
        case round =>
          rcases hrel with ⟨hi, rfl⟩ | ⟨hi, rfl⟩
          · rcases hi with rfl | rfl
            · go_wp2_with fail
              go_roundw
              case rel => exact Or.inl ⟨by simp, trivial⟩
              case measure => decide
            · have n9 : cc ≠ 0 := by omega
              go_wp2_with fail
              rw [← hcut]
              go_roundw
              case rel => exact Or.inr ⟨by simp, HWE.out.1⟩
              case measure => decide
          · clear a5 a9 a13 a17 a21 a25 a29 a33 a6 f6 f9
            obtain ⟨-, B4, kE⟩ := HWE.out
            have a5 : wE.cell? ⟨K, 5, none⟩ = some (.bool false) := cell_is B4 5 rfl
            have a9 : wE.cell? ⟨K, 9, none⟩ = some (.bool false) := cell_is B4 9 rfl
            have a13 : wE.cell? ⟨K, 13, none⟩ = some (.bool false) := cell_is B4 13 rfl
            have a17 : wE.cell? ⟨K, 17, none⟩ = some (.bool false) := cell_is B4 17 rfl
            have a21 : wE.cell? ⟨K, 21, none⟩ = some (.bool false) := cell_is B4 21 rfl
            have a25 : wE.cell? ⟨K, 25, none⟩ = some (.bool false) := cell_is B4 25 rfl
            have a29 : wE.cell? ⟨K, 29, none⟩ = some (.bool false) := cell_is B4 29 rfl
            have a33 : wE.cell? ⟨K, 33, none⟩ = some (.bool false) := cell_is B4 33 rfl
            rcases hi with rfl | rfl | rfl | rfl | rfl | rfl | rfl
            iterate 6
              · go_wp2_with fail
                go_roundw
                case rel => exact Or.inr ⟨by simp, trivial⟩
                case measure => decide
            · have g0 : wE.cell? ⟨K, 0, none⟩ = some (.pointer (some ⟨d.N, 0, none⟩)) := cell_is B4 0 rfl
              have g1 : wE.cell? ⟨K, 1, none⟩ = some (.pointer (some ⟨d.P, 0, none⟩)) := cell_is B4 1 rfl
              have h0 := unfrozen B4 0
              have h1 := unfrozen B4 1
              have B7 : SchB ((wE.setCell ⟨K, 0, none⟩ (.pointer (some ⟨d2.N, 0, none⟩))).setCell ⟨K, 1, none⟩ (.pointer (some ⟨d2.P, 0, none⟩))) K (C2.sch d2.N d2.P (cutV g off m cc) bv av false (.slice (some ⟨ga, 0, none⟩) 1 ca) (ev + 1)) := heap_set (heap_set B4 0 _ rfl) 1 _ rfl
              have k7 : Chg [K] wE ((wE.setCell ⟨K, 0, none⟩ (.pointer (some ⟨d2.N, 0, none⟩))).setCell ⟨K, 1, none⟩ (.pointer (some ⟨d2.P, 0, none⟩))) := (Chg.set _ _ _ _).then (Chg.set _ _ _ _)
              have HB7 := Lib.hid (And.intro B7 k7)
              have HB3 := Lib.hid (And.intro B3 (And.intro b3 B4))
              clear B7 k7 B3 b3 B4
              go_wp2_with fail
              go_ret
              obtain ⟨B7, k7⟩ := HB7.out
              obtain ⟨B3, b3, B4⟩ := HB3.out
              obtain ⟨k4, b4, hR, hP⟩ := HF.out
              obtain ⟨S3, hops, k13, hsz, hs3⟩ := HS3.out
              have kr : Chg [K] wr _ := kE.then k7
              have tr : Tp wr [K] [72, 85] := fun x hx => by
                rw [List.mem_singleton] at hx
                subst hx
                exact ⟨_, _, HB4.out, by simp⟩
              have kt := (k4.mono (T := [K, Bb]) (fun x hx _ => by simp at hx; simp [hx])).then (kr.mono (fun x hx _ => by simp at hx; simp [hx]))
              have tt : Tp w3 [K, Bb] [72, 85] := fun x hx => by
                simp at hx
                rcases hx with rfl | rfl
                · exact ⟨_, _, B3, by simp⟩
                · exact ⟨_, _, b3, by simp⟩
              exact ⟨rfl, d2, b, ops2, p, n, c, p2, n2, c2, S3.keepA kt (tt.av (by decide)) (tt.map S3.mx.ver.m) (tt.map S3.mx.book.2) (tt.map S3.mx.map), hops, hsz, Nat.le_trans hs3 kt.size, B7, kr.heap b4 (by simpa using hBK), HX.out.2.2.2.1 _ _ _ _ hR kr tr, HX.out.2.2.2.2.1 _ _ _ _ hP kr tr, (k13.mono (fun x hx _ => by simp at hx; simp [hx])).then kt⟩
end Go.Proofs.YtliicpedddcfiaaGreat
namespace Go.Proofs.YtliicpedddcfiaaGreat
open Go.RowKit Go.Lib

theorem ty47 : Tryz.prog.underlying 47 = some (.slice 51) := by kernel_rfl
theorem inf51 : (Tryz.prog.info? 51).map (fun i => (i.zero, i.size, i.bytes)) = some (some (.agg #[.int .i64 0, .int .i64 0, .int .i64 0, .int .i64 0, .int .i64 0, .slice none 0 0, .slice none 0 0]), 7, 88) := by kernel_rfl
/-- a history is put behind a row of histories. -/
theorem wpList_append_hist {ops : Array Oper} {rest : List Oper} {o : Oper} {a : Act} {w : World} {Q : Exit → Act → World → Prop} (hgd : o.guard = none) (s x : Operand)
    (ho : o.op = .call { callee := .builtin .append, args := #[s, x], argTypes := #[47, 47] }) (base b c n : Nat) (v u0 u1 u2 u3 u4 u5 u6 : Value) (xs : List Value) (hs : a.eval s = v) (hown : w.ownsRow base 51 7 v n xs) (hbase : base ≤ w.heap.size) (hn : n ≤ 1000)
    (hx : a.eval x = .slice (some ⟨b, 0, none⟩) 1 c) (hb : w.heap[b]? = some (.cells #[u0, u1, u2, u3, u4, u5, u6] 51 (0, 0))) (h1 : ∀ u ∈ [u0, u1, u2, u3, u4, u5, u6], u.oneCell' = true)
    (h : ∀ g cap w', w'.ownsRow base 51 7 (.slice (some ⟨g, 0, none⟩) (n + 1) cap) (n + 1) (xs ++ [u0, u1, u2, u3, u4, u5, u6]) → Chg v.ownBlock.toList w w' → (v.ownBlock = some g ∨ g = w.heap.size) → wpList Tryz.prog ops Q rest (a.put o.dst (.slice (some ⟨g, 0, none⟩) (n + 1) cap)) w') : wpList Tryz.prog ops Q (o :: rest) a w := by
  obtain ⟨i, hi0, hz, hz1, hz2⟩ := info_parts inf51
  refine wpList_append_lies w hgd s x 47 ho base 51 i _ 7 88 ty47 hi0 hz hz1 hz2 rfl (by decide) v n xs hs hown ⟨b, 0, none⟩ 1 c [u0, u1, u2, u3, u4, u5, u6] hx rfl ?_ h1 (by decide) (by unfold maxLen; omega) (by omega) hbase _ rfl ?_
  · intro j u hu
    rw [add_lit, Nat.zero_add]
    exact cell_is hb j (by simpa using hu)
  · intro g cap w' h2 h3 h4 _
    exact h g cap w' h2 (Chg.of_grownO h3) h4
theorem own_cells {w : World} {base e size n g c : Nat} {xs : List Value} (h : w.ownsRow base e size (.slice (some ⟨g, 0, none⟩) n c) n xs) (j : Nat) (u : Value) (hu : xs[j]? = some u) : w.cell? ⟨g, j, none⟩ = some u := by
  have := h.cells (g := g) rfl j u hu
  rwa [add_lit, Nat.zero_add] at this
set_option maxRecDepth 100000 in
set_option maxHeartbeats 8000000 in
theorem hists_two (w : World) {K P B1 B2 ga ca n2 c2 : Nat} {p2 : Option Addr} {cs : Array Value} {fr t0 st t tm h2 fr2 t02 st2 tm2 t2 : Int} {PR PP : Value → World → Prop} (hB : SchB w K cs) (h1 : cs[1]? = some (.pointer (some ⟨P, 0, none⟩))) (hal : cs[34]? = some (.slice (some ⟨ga, 0, none⟩) 2 ca))
    (g0 : w.cell? ⟨ga, 0, none⟩ = some (.pointer (some ⟨B1, 0, none⟩))) (g1 : w.cell? ⟨ga, 1, none⟩ = some (.pointer (some ⟨B2, 0, none⟩))) (b1 : w.heap[B1]? = some (.cells (deadC fr t0 st t tm (.slice none 0 0) (.slice p2 n2 c2)) 85 (0, 0))) (b2 : w.heap[B2]? = some (.cells (begC h2 fr2 t02) 85 (0, 0))) (hh : 0 < h2)
    (HC : ∀ wx, Chg [] w wx → Calls Tryz.prog 29 #[.agg #[.int .i64 st, .int .i64 t, .int .i64 tm, .int .i64 0, .int .i64 0, .slice none 0 0, .slice p2 n2 c2]] wx fun e w' => ∃ g c, e = .returned (.agg #[.int .i64 st, .int .i64 t, .int .i64 tm, .int .i64 0, .int .i64 0, .slice none 0 0, .slice (some ⟨g, 0, none⟩) 1 c]) ∧ Chg [] wx w')
    (HH : ∀ wx, Chg [] w wx → Calls Tryz.prog 30 #[.pointer (some ⟨P, 0, none⟩), .int .i64 h2] wx (HiR wx st2 tm2 t2 PR PP)) :
    Calls Tryz.prog 15 #[.pointer (some ⟨K, 0, none⟩)] w fun e w' => ∃ g c, e = .returned (.slice (some ⟨g, 0, none⟩) 2 c) ∧ Chg [] w w' ∧ w'.cell? ⟨g, 0, none⟩ = some (.int .i64 st) ∧ w'.cell? ⟨g, 4, none⟩ = some (.int .i64 t0) ∧ w'.cell? ⟨g, 7, none⟩ = some (.int .i64 st2) := by
  have HG := Lib.hid (sgone_any w hB h1)
  have k34 : w.cell? ⟨K, 34, none⟩ = some (.slice (some ⟨ga, 0, none⟩) 2 ca) := cell_is hB 34 hal
  have HX := Lib.hid (And.intro g0 (And.intro g1 (And.intro b1 (And.intro b2 (And.intro HC (And.intro HH (cell_is hB 1 h1)))))))
  have HS := Lib.hid hh
  clear hB h1 hal g0 g1 b1 b2 HC HH hh
  go_enter Tryz.func15, Tryz.ntmps15
  go_wp2_with fail
  refine HG.out.mono ?_
  rintro e w1 ⟨rfl, rfl⟩
  go_wp2_with fail
  clear k34 HG
  go_loopw [2, 4, 5, 13] (fun v _ _ i wr => (i = .int .i64 0 ∧ v = .slice none 0 0 ∧ w = wr) ∨ (i = .int .i64 1 ∧ ∃ p n c, v = .slice p n c ∧ Chg [] w wr ∧ ∃ u1 u2 u3 u5 u6, wr.ownsRow w.heap.size 51 7 v 1 [.int .i64 st, u1, u2, u3, .int .i64 t0, u5, u6]) ∨ (i = .int .i64 2 ∧ ∃ g c, v = .slice (some ⟨g, 0, none⟩) 2 c ∧ Chg [] w wr ∧ wr.cell? ⟨g, 0, none⟩ = some (.int .i64 st) ∧ wr.cell? ⟨g, 4, none⟩ = some (.int .i64 t0) ∧ wr.cell? ⟨g, 7, none⟩ = some (.int .i64 st2))) (fun _ _ _ i _ => 2 - (intOf i).toNat)
  case atStart => exact Or.inl ⟨rfl, rfl, rfl⟩
  case round =>
    rcases hrel with ⟨rfl, rfl, rfl⟩ | ⟨rfl, p, n, c, rfl, kr, u1, u2, u3, u5, u6, ho⟩ | ⟨rfl, g, c, rfl, kr, r0, r4, r7⟩
    · have g0 := HX.out.1
      have b1 := HX.out.2.2.1
      have l0 : w.cell? ⟨B1, 0, none⟩ = some (.int .i64 0) := cell_is b1 0 rfl
      have l1 : w.cell? ⟨B1, 1, none⟩ = some (.int .i64 fr) := cell_is b1 1 rfl
      have l2 : w.cell? ⟨B1, 2, none⟩ = some (.int .i64 t0) := cell_is b1 2 rfl
      have l3 : w.cell? ⟨B1, 3, none⟩ = some (.int .i64 st) := cell_is b1 3 rfl
      have l4 : w.cell? ⟨B1, 4, none⟩ = some (.int .i64 t) := cell_is b1 4 rfl
      have l5 : w.cell? ⟨B1, 5, none⟩ = some (.int .i64 tm) := cell_is b1 5 rfl
      have l6 : w.cell? ⟨B1, 6, none⟩ = some (.int .i64 0) := cell_is b1 6 rfl
      have l7 : w.cell? ⟨B1, 7, none⟩ = some (.int .i64 0) := cell_is b1 7 rfl
      have l8 : w.cell? ⟨B1, 8, none⟩ = some (.slice none 0 0) := cell_is b1 8 rfl
      have l9 : w.cell? ⟨B1, 9, none⟩ = some (.slice p2 n2 c2) := cell_is b1 9 rfl
      go_upto_region 6 with fail
      go_upto_region 7 with (first | (go_at_call 29; refine (HX.out.2.2.2.2.1 w (Chg.refl _ _)).mono ?_; rintro e w2 ⟨g, c, rfl, k2⟩))
      have k3 : Chg [] w (w2.alloc (.cells #[.int .i64 st, .int .i64 t, .int .i64 tm, .int .i64 0, .int .i64 0, .slice none 0 0, .slice (some ⟨g, 0, none⟩) 1 c] 51)) := k2.then_alloc _
      have y3 := heap_new w2 (.cells #[.int .i64 st, .int .i64 t, .int .i64 tm, .int .i64 0, .int .i64 0, .slice none 0 0, .slice (some ⟨g, 0, none⟩) 1 c] 51)
      generalize w2.alloc (.cells #[.int .i64 st, .int .i64 t, .int .i64 tm, .int .i64 0, .int .i64 0, .slice none 0 0, .slice (some ⟨g, 0, none⟩) 1 c] 51) = w3 at *
      have hz3 : w.heap.size ≤ w2.heap.size := k2.size
      generalize w2.heap.size = z at *
      have b3 := k3.heap b1 (by simp)
      clear l0 l1 l2 l3 l4 l5 l6 l7 l8 l9 g0 b1 k2
      have m0 : w3.cell? ⟨B1, 0, none⟩ = some (.int .i64 0) := cell_is b3 0 rfl
      have m1 : w3.cell? ⟨B1, 1, none⟩ = some (.int .i64 fr) := cell_is b3 1 rfl
      have m2 : w3.cell? ⟨B1, 2, none⟩ = some (.int .i64 t0) := cell_is b3 2 rfl
      have e3 : w3.cell? ⟨z, 3, none⟩ = some (.int .i64 0) := cell_is y3 3 rfl
      have e4 : w3.cell? ⟨z, 4, none⟩ = some (.int .i64 0) := cell_is y3 4 rfl
      have f3 := unfrozen y3 3
      have f4 := unfrozen y3 4
      go_upto_region 9 with fail
      have nB : B1 ≠ z := heap_ne b3 y3 (by simp)
      have xA : (w3.setCell ⟨z, 3, none⟩ (.int .i64 fr)).drew.heap[z]? = _ := heap_set y3 3 _ rfl
      have xB : (w3.setCell ⟨z, 4, none⟩ (.int .i64 t0)).drew.heap[z]? = _ := heap_set y3 4 _ rfl
      have bA : (w3.setCell ⟨z, 3, none⟩ (.int .i64 fr)).drew.heap[B1]? = _ := heap_set_ne b3 nB 3 _
      have bB : (w3.setCell ⟨z, 4, none⟩ (.int .i64 t0)).drew.heap[B1]? = _ := heap_set_ne b3 nB 4 _
      have p1 : w3.drew.cell? ⟨B1, 1, none⟩ = some (.int .i64 fr) := m1
      have p2 : w3.drew.cell? ⟨B1, 2, none⟩ = some (.int .i64 t0) := m2
      have p3 : w3.drew.cell? ⟨z, 3, none⟩ = some (.int .i64 0) := e3
      have p4 : w3.drew.cell? ⟨z, 4, none⟩ = some (.int .i64 0) := e4
      have p5 : w3.drew.frozen? ⟨z, 3, none⟩ = false := f3
      have p6 : w3.drew.frozen? ⟨z, 4, none⟩ = false := f4
      have q1 : (w3.setCell ⟨z, 3, none⟩ (.int .i64 fr)).drew.cell? ⟨B1, 2, none⟩ = some (.int .i64 t0) := cell_is bA 2 rfl
      have q2 : (w3.setCell ⟨z, 3, none⟩ (.int .i64 fr)).drew.cell? ⟨z, 4, none⟩ = some (.int .i64 0) := cell_is xA 4 rfl
      have q3 : (w3.setCell ⟨z, 3, none⟩ (.int .i64 fr)).drew.frozen? ⟨z, 4, none⟩ = false := unfrozen xA 4
      have q4 : (w3.setCell ⟨z, 4, none⟩ (.int .i64 t0)).drew.cell? ⟨B1, 1, none⟩ = some (.int .i64 fr) := cell_is bB 1 rfl
      have q5 : (w3.setCell ⟨z, 4, none⟩ (.int .i64 t0)).drew.cell? ⟨z, 3, none⟩ = some (.int .i64 0) := cell_is xB 3 rfl
      have q6 : (w3.setCell ⟨z, 4, none⟩ (.int .i64 t0)).drew.frozen? ⟨z, 3, none⟩ = false := unfrozen xB 3
      go_region_law (first | fail)
      all_goals
        have y4 : ((w3.setCell ⟨z, 3, none⟩ (.int .i64 fr)).setCell ⟨z, 4, none⟩ (.int .i64 t0)).drew.heap[z]? = some (.cells #[.int .i64 st, .int .i64 t, .int .i64 tm, .int .i64 fr, .int .i64 t0, .slice none 0 0, .slice (some ⟨g, 0, none⟩) 1 c] 51 (0, 0)) := heap_set (heap_set y3 3 _ rfl) 4 _ rfl
        have k4 : Chg [] w ((w3.setCell ⟨z, 3, none⟩ (.int .i64 fr)).setCell ⟨z, 4, none⟩ (.int .i64 t0)).drew := (k3.trans ((Chg.set _ z 3 _).then (Chg.set _ z 4 _)) (fun x hx hlt => by rw [List.mem_singleton] at hx; omega)).drew
        clear p1 p2 p3 p4 p5 p6 q1 q2 q3 q4 q5 q6 xA xB bA bB m0 m1 m2 e3 e4 f3 f4 y3 b3 nB k3
        generalize ((w3.setCell ⟨z, 3, none⟩ (.int .i64 fr)).setCell ⟨z, 4, none⟩ (.int .i64 t0)).drew = w4 at *
        have d0 : w4.cell? ⟨z, 0, none⟩ = some (.int .i64 st) := cell_is y4 0 rfl
        have d1 : w4.cell? ⟨z, 1, none⟩ = some (.int .i64 t) := cell_is y4 1 rfl
        have d2 : w4.cell? ⟨z, 2, none⟩ = some (.int .i64 tm) := cell_is y4 2 rfl
        have d3 : w4.cell? ⟨z, 3, none⟩ = some (.int .i64 fr) := cell_is y4 3 rfl
        have d4 : w4.cell? ⟨z, 4, none⟩ = some (.int .i64 t0) := cell_is y4 4 rfl
        have d5 : w4.cell? ⟨z, 5, none⟩ = some (.slice none 0 0) := cell_is y4 5 rfl
        have d6 : w4.cell? ⟨z, 6, none⟩ = some (.slice (some ⟨g, 0, none⟩) 1 c) := cell_is y4 6 rfl
        have k5 : Chg [] w (w4.alloc (.cells #[.int .i64 st, .int .i64 t, .int .i64 tm, .int .i64 fr, .int .i64 t0, .slice none 0 0, .slice (some ⟨g, 0, none⟩) 1 c] 51)) := k4.then_alloc _
        have y5 := heap_new w4 (.cells #[.int .i64 st, .int .i64 t, .int .i64 tm, .int .i64 fr, .int .i64 t0, .slice none 0 0, .slice (some ⟨g, 0, none⟩) 1 c] 51)
        have hsz5 := k5.size
        go_wp2_with (first | (at_builtin; refine wpList_append_hist rfl (.tmp 46) (.tmp 48) rfl w.heap.size w4.heap.size 1 0 (.slice none 0 0) _ _ _ _ _ _ _ [] rfl (World.ownsRow_nil _ _ _ _) hsz5 (by decide) rfl y5 (by intro u hu; simp at hu; rcases hu with rfl | rfl | rfl | rfl | rfl | rfl | rfl <;> rfl) ?_; intro g7 c7 w7 o7 k7 n7))
        have HF := Lib.hid (And.intro (k5.then k7) o7)
        clear o7 k7 n7 k5 y5 k4 y4 d0 d1 d2 d3 d4 d5 d6
        go_roundw
        case rel => exact Or.inr (Or.inl ⟨rfl, _, _, _, rfl, HF.out.1, _, _, _, _, _, HF.out.2⟩)
        case measure => decide
    · have g1 := kr.cell HX.out.2.1 (by simp)
      have b2 := kr.heap HX.out.2.2.2.1 (by simp)
      have HO := Lib.hid (And.intro kr ho)
      have l0 : wr.cell? ⟨B2, 0, none⟩ = some (.int .i64 h2) := cell_is b2 0 rfl
      have l1 : wr.cell? ⟨B2, 1, none⟩ = some (.int .i64 fr2) := cell_is b2 1 rfl
      have l2 : wr.cell? ⟨B2, 2, none⟩ = some (.int .i64 t02) := cell_is b2 2 rfl
      have l3 : wr.cell? ⟨B2, 3, none⟩ = some (.int .i64 0) := cell_is b2 3 rfl
      have l4 : wr.cell? ⟨B2, 4, none⟩ = some (.int .i64 0) := cell_is b2 4 rfl
      have l5 : wr.cell? ⟨B2, 5, none⟩ = some (.int .i64 0) := cell_is b2 5 rfl
      have l6 : wr.cell? ⟨B2, 6, none⟩ = some (.int .i64 0) := cell_is b2 6 rfl
      have l7 : wr.cell? ⟨B2, 7, none⟩ = some (.int .i64 0) := cell_is b2 7 rfl
      have l8 : wr.cell? ⟨B2, 8, none⟩ = some (.slice none 0 0) := cell_is b2 8 rfl
      have l9 : wr.cell? ⟨B2, 9, none⟩ = some (.slice none 0 0) := cell_is b2 9 rfl
      go_upto_region 6 with fail
      go_upto_region 7 with (first | (go_at_call 29; refine (copied_nil wr).mono ?_; rintro e w2 ⟨rfl, k2⟩))
      have k3 : Chg [] wr (w2.alloc (.cells #[.int .i64 0, .int .i64 0, .int .i64 0, .int .i64 0, .int .i64 0, .slice none 0 0, .slice none 0 0] 51)) := k2.then_alloc _
      have y3 := heap_new w2 (.cells #[.int .i64 0, .int .i64 0, .int .i64 0, .int .i64 0, .int .i64 0, .slice none 0 0, .slice none 0 0] 51)
      generalize w2.alloc (.cells #[.int .i64 0, .int .i64 0, .int .i64 0, .int .i64 0, .int .i64 0, .slice none 0 0, .slice none 0 0] 51) = w3 at *
      have hz3 : wr.heap.size ≤ w2.heap.size := k2.size
      generalize w2.heap.size = z at *
      have b3 := k3.heap b2 (by simp)
      have kw3 := kr.then k3
      clear l0 l1 l2 l3 l4 l5 l6 l7 l8 l9 g1 b2 k2 kr ho
      have m0 : w3.cell? ⟨B2, 0, none⟩ = some (.int .i64 h2) := cell_is b3 0 rfl
      have n0 : decide (0 < h2) = true := decide_eq_true HS.out
      have a1 : w3.cell? ⟨K, 1, none⟩ = some (.pointer (some ⟨P, 0, none⟩)) := kw3.cell HX.out.2.2.2.2.2.2 (by simp)
      have m0d : w3.drew.cell? ⟨B2, 0, none⟩ = some (.int .i64 h2) := m0
      have a1d : w3.drew.cell? ⟨K, 1, none⟩ = some (.pointer (some ⟨P, 0, none⟩)) := a1
      have y3d : w3.drew.heap[z]? = some (.cells #[.int .i64 0, .int .i64 0, .int .i64 0, .int .i64 0, .int .i64 0, .slice none 0 0, .slice none 0 0] 51 (0, 0)) := y3
      have b3d : w3.drew.heap[B2]? = _ := b3
      have k3d : Chg [] wr w3.drew := k3.drew
      have kw3d : Chg [] w w3.drew := kw3.drew
      go_upto_region 8 with fail
      clear n0 m0 a1 y3 b3 k3 kw3
      go_still_tail 8, (by kernel_rfl)
      change wpList _ _ _ _ _ w3.drew
      generalize w3.drew = w4 at *
      have HH := Lib.hid (HX.out.2.2.2.2.2.1 w4 kw3d)
      go_upto_region 9 with (first
        | (go_at_call 30; refine HH.out.mono ?_; rintro e w5 ⟨pa, na, ca5, pb, nb, cb5, rfl, k5, -, -⟩; have y5 := k5.heap y3d (by simp)
           have z0 := cell_is y5 0 rfl; have v0 := unfrozen y5 0
           have z1 := cell_is y5 1 rfl; have v1 := unfrozen y5 1
           have z2 := cell_is y5 2 rfl; have v2 := unfrozen y5 2
           have z3 := cell_is y5 3 rfl; have v3 := unfrozen y5 3
           have z4 := cell_is y5 4 rfl; have v4 := unfrozen y5 4
           have z5 := cell_is y5 5 rfl; have v5 := unfrozen y5 5
           have z6 := cell_is y5 6 rfl; have v6 := unfrozen y5 6))
      obtain ⟨y6, k6⟩ := set7 (.int .i64 st2) (.int .i64 t2) (.int .i64 tm2) (.int .i64 0) (.int .i64 0) (.slice pa na ca5) (.slice pb nb cb5) y5
      have kw5 : Chg [] wr w5 := k3d.then k5
      have kw6 : Chg [] wr _ := kw5.trans k6 (fun x hx hlt => by rw [List.mem_singleton] at hx; omega)
      have nB : B2 ≠ z := heap_ne b3d y3d (by simp)
      have b3 := k6.heap (k5.heap b3d (by simp)) (by simpa using nB)
      generalize ((((((w5.setCell ⟨z, 0, none⟩ (.int .i64 st2)).setCell ⟨z, 1, none⟩ (.int .i64 t2)).setCell ⟨z, 2, none⟩ (.int .i64 tm2)).setCell ⟨z, 3, none⟩ (.int .i64 0)).setCell ⟨z, 4, none⟩ (.int .i64 0)).setCell ⟨z, 5, none⟩ (.slice pa na ca5)).setCell ⟨z, 6, none⟩ (.slice pb nb cb5) = w3 at *
      clear z0 z1 z2 z3 z4 z5 z6 v0 v1 v2 v3 v4 v5 v6 y5 k5 k6 kw5 k3d kw3d y3d b3d m0d a1d HH
      have y3 := y6
      clear y6
      have m1 : w3.cell? ⟨B2, 1, none⟩ = some (.int .i64 fr2) := cell_is b3 1 rfl
      have m2 : w3.cell? ⟨B2, 2, none⟩ = some (.int .i64 t02) := cell_is b3 2 rfl
      have e3 : w3.cell? ⟨z, 3, none⟩ = some (.int .i64 0) := cell_is y3 3 rfl
      have e4 : w3.cell? ⟨z, 4, none⟩ = some (.int .i64 0) := cell_is y3 4 rfl
      have f3 := unfrozen y3 3
      have f4 := unfrozen y3 4
      clear nB
      have nB : B2 ≠ z := heap_ne b3 y3 (by simp)
      have xA : (w3.setCell ⟨z, 3, none⟩ (.int .i64 fr2)).drew.heap[z]? = _ := heap_set y3 3 _ rfl
      have xB : (w3.setCell ⟨z, 4, none⟩ (.int .i64 t02)).drew.heap[z]? = _ := heap_set y3 4 _ rfl
      have bA : (w3.setCell ⟨z, 3, none⟩ (.int .i64 fr2)).drew.heap[B2]? = _ := heap_set_ne b3 nB 3 _
      have bB : (w3.setCell ⟨z, 4, none⟩ (.int .i64 t02)).drew.heap[B2]? = _ := heap_set_ne b3 nB 4 _
      have p1 : w3.drew.cell? ⟨B2, 1, none⟩ = some (.int .i64 fr2) := m1
      have p2 : w3.drew.cell? ⟨B2, 2, none⟩ = some (.int .i64 t02) := m2
      have p3 : w3.drew.cell? ⟨z, 3, none⟩ = some (.int .i64 0) := e3
      have p4 : w3.drew.cell? ⟨z, 4, none⟩ = some (.int .i64 0) := e4
      have p5 : w3.drew.frozen? ⟨z, 3, none⟩ = false := f3
      have p6 : w3.drew.frozen? ⟨z, 4, none⟩ = false := f4
      have q1 : (w3.setCell ⟨z, 3, none⟩ (.int .i64 fr2)).drew.cell? ⟨B2, 2, none⟩ = some (.int .i64 t02) := cell_is bA 2 rfl
      have q2 : (w3.setCell ⟨z, 3, none⟩ (.int .i64 fr2)).drew.cell? ⟨z, 4, none⟩ = some (.int .i64 0) := cell_is xA 4 rfl
      have q3 : (w3.setCell ⟨z, 3, none⟩ (.int .i64 fr2)).drew.frozen? ⟨z, 4, none⟩ = false := unfrozen xA 4
      have q4 : (w3.setCell ⟨z, 4, none⟩ (.int .i64 t02)).drew.cell? ⟨B2, 1, none⟩ = some (.int .i64 fr2) := cell_is bB 1 rfl
      have q5 : (w3.setCell ⟨z, 4, none⟩ (.int .i64 t02)).drew.cell? ⟨z, 3, none⟩ = some (.int .i64 0) := cell_is xB 3 rfl
      have q6 : (w3.setCell ⟨z, 4, none⟩ (.int .i64 t02)).drew.frozen? ⟨z, 3, none⟩ = false := unfrozen xB 3
      go_region_law (first | fail)
      all_goals
        have y4 : ((w3.setCell ⟨z, 3, none⟩ (.int .i64 fr2)).setCell ⟨z, 4, none⟩ (.int .i64 t02)).drew.heap[z]? = some (.cells #[.int .i64 st2, .int .i64 t2, .int .i64 tm2, .int .i64 fr2, .int .i64 t02, .slice pa na ca5, .slice pb nb cb5] 51 (0, 0)) := heap_set (heap_set y3 3 _ rfl) 4 _ rfl
        have k4 : Chg [] wr ((w3.setCell ⟨z, 3, none⟩ (.int .i64 fr2)).setCell ⟨z, 4, none⟩ (.int .i64 t02)).drew := (kw6.trans ((Chg.set _ z 3 _).then (Chg.set _ z 4 _)) (fun x hx hlt => by rw [List.mem_singleton] at hx; omega)).drew
        clear p1 p2 p3 p4 p5 p6 q1 q2 q3 q4 q5 q6 xA xB bA bB m1 m2 e3 e4 f3 f4 y3 b3 nB kw6
        generalize ((w3.setCell ⟨z, 3, none⟩ (.int .i64 fr2)).setCell ⟨z, 4, none⟩ (.int .i64 t02)).drew = w4 at *
        have d0 : w4.cell? ⟨z, 0, none⟩ = some (.int .i64 st2) := cell_is y4 0 rfl
        have d1 : w4.cell? ⟨z, 1, none⟩ = some (.int .i64 t2) := cell_is y4 1 rfl
        have d2 : w4.cell? ⟨z, 2, none⟩ = some (.int .i64 tm2) := cell_is y4 2 rfl
        have d3 : w4.cell? ⟨z, 3, none⟩ = some (.int .i64 fr2) := cell_is y4 3 rfl
        have d4 : w4.cell? ⟨z, 4, none⟩ = some (.int .i64 t02) := cell_is y4 4 rfl
        have d5 : w4.cell? ⟨z, 5, none⟩ = some (.slice pa na ca5) := cell_is y4 5 rfl
        have d6 : w4.cell? ⟨z, 6, none⟩ = some (.slice pb nb cb5) := cell_is y4 6 rfl
        have k5 : Chg [] wr (w4.alloc (.cells #[.int .i64 st2, .int .i64 t2, .int .i64 tm2, .int .i64 fr2, .int .i64 t02, .slice pa na ca5, .slice pb nb cb5] 51)) := k4.then_alloc _
        have y5 := heap_new w4 (.cells #[.int .i64 st2, .int .i64 t2, .int .i64 tm2, .int .i64 fr2, .int .i64 t02, .slice pa na ca5, .slice pb nb cb5] 51)
        have hsz5 := (HO.out.1.then k5).size
        have ho5 := own_keep HO.out.2 k5.below0
        go_wp2_with (first | (at_builtin; refine wpList_append_hist rfl (.tmp 46) (.tmp 48) rfl w.heap.size w4.heap.size 1 1 (.slice p n c) _ _ _ _ _ _ _ _ rfl ho5 hsz5 (by decide) rfl y5 (by intro u hu; simp at hu; rcases hu with rfl | rfl | rfl | rfl | rfl | rfl | rfl <;> rfl) ?_; intro g7 c7 w7 o7 k7 n7))
        have hck := own_cells o7
        have hav : ∀ x ∈ (Value.slice p n c).ownBlock.toList, w.heap.size ≤ x := fun x hx => (own_elem ho5 (show (Value.slice p n c).ownBlock = some x by simpa using hx)).1
        have HF := Lib.hid (And.intro ((HO.out.1.then k5).trans k7 (fun x hx hlt => by have := hav x hx; omega)) (And.intro (hck 0 _ rfl) (And.intro (hck 4 _ rfl) (hck 7 _ rfl))))
        clear o7 k7 n7 k5 y5 k4 y4 d0 d1 d2 d3 d4 d5 d6 hck hav ho5
        go_roundw
        case rel => exact Or.inr (Or.inr ⟨rfl, g7, c7, rfl, HF.out⟩)
        case measure => decide
    · have HF := Lib.hid (And.intro kr (And.intro r0 (And.intro r4 r7)))
      clear kr r0 r4 r7
      go_wp2_with fail
      go_ret
      exact ⟨g, c, rfl, HF.out⟩
end Go.Proofs.YtliicpedddcfiaaGreat
namespace Go.Proofs.YtliicpedddcfiaaGreat.C2
open Go.RowKit Go.Lib

theorem Bs2.cut {x : Pl} {w : World} {g off c : Nat} {s : OpS} {ss : List OpS} (h : Bs2 x (.slice (some ⟨g, off, none⟩) (ss.length + 1) c) (s :: ss) w) : Bs2 x (cutV g off ss.length c) ss w := ⟨h.up, h.ops.cut⟩
theorem OpV.nil_of {w : World} {lo : Nat} {k h a l : Int} {k' h' a' l' : Int} {pp : Option Addr} {pn pc : Nat} (hv : OpV w lo ⟨k, h, a, l, none⟩ [.int .i64 k', .int .i64 h', .int .i64 a', .int .i64 l', .slice pp pn pc]) : pp = none ∧ pn = 0 ∧ pc = 0 := by
  obtain ⟨pv, e, ⟨-, rfl⟩ | ⟨b, dl, hp, -⟩⟩ := hv
  · simp at e
    exact e.2.2.2.2
  · cases hp
set_option maxRecDepth 100000 in
set_option maxHeartbeats 1000000 in
theorem sb1 (x : Pl) (w : World) {o : Value} {ss : List OpS} (hS : Sto w x.lw x.d (s00 x.lw) (g00 x.lw x.ops)) (hB : SchB w x.K (sch x.d.N x.d.P o (.slice none 0 0) (.slice none 0 0) false (.slice none 0 0) 0)) (hb : Bs2 x o (⟨1, 0, 0, 0, none⟩ :: ss) w) (hKl : x.lw ≤ x.K) (hlw : x.lw ≤ w.heap.size) :
    Calls Tryz.prog 10 #[.pointer (some ⟨x.K, 0, none⟩), .int .i64 2] w fun e w' => (∃ v, e = .returned (.tuple #[v, .int .i64 0])) ∧ Stg2 x ss false 1 0 1 w' := by
  obtain ⟨g, off, c, pp, pn, pc, rfl, hc, ⟨cur, hg⟩, q0, q1, q2, q3, q4, hov⟩ := hb.ops.head
  obtain ⟨rfl, rfl, rfl⟩ := OpV.nil_of hov
  have hgK : g ≠ x.K := heap_ne hg hB (by simp)
  refine (step_told w (P := PO2 x (.slice (some ⟨g, off, none⟩) (ss.length + 1) c) (.slice none 0 0) (⟨1, 0, 0, 0, none⟩ :: ss) false 1 0) (q := false) (av := .slice none 0 0) (na := 0) (xa := []) (m := ss.length) (x0 := 1) (x1 := 0) (x2 := 0) (x3 := 0) hlw hKl (fun cs => PO2.cl x _ _ _ _ _ _ cs) hB rfl rfl rfl ⟨by decide, by decide⟩ hc q0 q1 q2 q3 q4 hgK ?_ ?_ (nil66 _ _) (by decide)).mono ?_
  · intro wx kx hBx
    have tK := chgK hB
    have hSx := hS.keepA kx (tK.av (by decide)) (tK.map hS.mx.ver.m) (tK.map hS.mx.book.2) (tK.map hS.mx.map)
    have hbx := hb.tp kx tK (by decide) (fun y hy => by rw [List.mem_singleton] at hy; omega)
    have hlx : x.lw ≤ wx.heap.size := Nat.le_trans hlw kx.size
    refine do_begin wx hlx (fun cs => PO2.cl x _ _ _ _ _ _ cs) (fun wy ky => ?_)
    have hSy := hSx.keep ky
    refine (cbegin_ok wy (K := x.K) (o := .slice (some ⟨g, off, none⟩) (ss.length + 1) c) (bv := .slice none 0 0) (av := .slice none 0 0) (al := .slice none 0 0) (q := false) (ev := 1) (nb := 0) (na := 0) (xb := []) (xa := []) hSy (ky.heap hBx (by simp)) (World.ownsRow_nil _ _ _ _) (World.ownsRow_nil _ _ _ _) (fun y hy => by cases hy) (by decide) (by decide) rfl (show (0 : Int) ≤ 0 by decide) (show (0 : Int) ≤ 1099511627776 by decide) (show (0 : Int) ≤ 0 by decide) (show (0 : Int) ≤ 1000000 by decide) hKl (Nat.le_trans hlx ky.size)).mono ?_
    rintro e w' ⟨rfl, T, W, rw, Q, V, base, Bb, bv, al, hLo, hT, hbase, hBl, hB', ob, oa, hBb, hSu, l1, l2, l3, hdis, -⟩
    refine ⟨rfl, _, ⟨T, base, W, rw, Q, V, Bb, bv, al, _, [], rfl, ⟨ob, oa, hdis, hBb, hBl⟩, ⟨hSu, ⟨l1, l2, l3⟩, by have := ky.size; omega, by have := ky.size; omega⟩, rfl, (hbx.keep0 ky).lo hLo⟩, hB', fun y cs hy => hLo.heap hy (by decide)⟩
  · rintro cs2 w2 ⟨T, base, W, rw, Q, V, Bb, bv, al, qf, L, rfl, -⟩
    exact ⟨rfl, rfl, rfl⟩
  · rintro e w' ⟨rfl, av', cs2, hP, hB', ho⟩
    obtain ⟨T, base, W, rw, Q, V, Bb, bv, al, qf, L, rfl, h2, h3, h4, h5⟩ := hP
    exact ⟨⟨_, rfl⟩, _, av', _, _, ⟨T, base, W, rw, Q, V, Bb, bv, al, qf, L, rfl, h2, h3, h4, h5.cut⟩, hB', ho⟩
set_option maxRecDepth 100000 in
set_option maxHeartbeats 1000000 in
theorem sb2 (x : Pl) (w : World) {ss : List OpS} {dl : List UInt8} {ev : Int} {na : Nat} (h : Stg2 x (⟨3, 0, 0, 0, some (1, dl)⟩ :: ss) false ev 0 na w) (hev : 0 ≤ ev ∧ ev ≤ 1000000) (hKl : x.lw ≤ x.K) (hlw : x.lw ≤ w.heap.size) (hna : na ≤ 900) :
    Calls Tryz.prog 10 #[.pointer (some ⟨x.K, 0, none⟩), .int .i64 2] w fun e w' => (∃ v, e = .returned (.tuple #[v, .int .i64 0])) ∧ Stg2 x ss false (ev + 1) 1 (na + 1) w' := by
  obtain ⟨o, av, cs, xs, hP, hB, ho⟩ := h
  have hPw := hP
  obtain ⟨T, base, W, rw, Q, V, Bb, bv, al, qf, L, rfl, -, -, -, hb⟩ := hPw
  obtain ⟨g, off, c, pp, pn, pc, rfl, hc, ⟨cur, hg⟩, q0, q1, q2, q3, q4, hov⟩ := hb.ops.head
  have hgK : g ≠ x.K := heap_ne hg hB (by simp)
  refine (step_told w (P := PO2 x (.slice (some ⟨g, off, none⟩) (ss.length + 1) c) av (⟨3, 0, 0, 0, some (1, dl)⟩ :: ss) false (ev + 1) 1) (q := false) (av := av) (na := na) (m := ss.length) (x0 := 3) (x1 := 0) (x2 := 0) (x3 := 0) hlw hKl (fun cs => PO2.cl x _ _ _ _ _ _ cs) hB rfl rfl rfl hev hc q0 q1 q2 q3 q4 hgK ?_ ?_ ho hna).mono ?_
  · intro wx kx hBx
    have tK := chgK hB
    have hx := (PO2.cl x _ _ _ _ _ _ _).keep w wx _ hP kx tK.k66 (fun y hy => by rw [List.mem_singleton] at hy; omega)
    have hovx := hov.keepT kx (fun y hy _ cs t fr hh => by
      obtain ⟨cs2, t2, h2, h3⟩ := tK y hy
      rw [h2] at hh
      cases hh
      rw [List.mem_singleton] at h3
      subst h3
      exact ⟨by decide, by decide⟩)
    obtain ⟨T, base, W, rw, Q, V, Bb, bv, al, qf, L, hcs, hbg, hop, hL, hbx⟩ := hx
    rw [hcs] at hBx
    have hlx : x.lw ≤ wx.heap.size := Nat.le_trans hlw kx.size
    obtain ⟨⟨gb, cb, rfl, g0⟩, -⟩ := hbg.one
    refine do_call wx (kind := 3) (h := 1) (nb := 1) (Or.inl rfl) hlx (fun cs => PO2.cl x _ _ _ _ _ _ cs) (cell_is hBx 7 rfl) (by decide) g0 (cell_is hbg.blk 0 rfl) (by decide) (fun wy ky => ?_)
    have hf : Fr base (dT x.d T W rw Q V) (begP (s00 x.lw)) (StoF x.lw (dT x.d T W rw Q V) (begS (s00 x.lw) T) (g00 x.lw x.ops)) := fr_sto hop.2.1 rfl rfl rfl rfl rfl
    have hby := hbx.keep0 ky
    obtain ⟨pv, epv, ⟨hn, -⟩ | ⟨b, dl', hp, E, cE, D, cD, ce, e1, -, -, e2, e3, e4, e5, e6, -⟩⟩ := hovx.keepT ky (fun y hy => by cases hy)
    · cases hn
    cases hp
    subst e1
    simp at epv
    obtain ⟨rfl, rfl, rfl⟩ := epv
    refine (ccall_write wy (K := x.K) (Bb := Bb) (b := 1) (d := dT x.d T W rw Q V) (p := begP (s00 x.lw)) (ky.heap hBx (by simp)) rfl (ky.heap hbg.blk (by simp)) rfl hf (hop.1.keep hf ky) (cell_is e2 0 e3) (cell_is e2 1 e4) e5 e6 (by decide) (by decide) (by omega)).mono ?_
    rintro e w' ⟨rfl, hO, v, hSu⟩
    have hLL : L = [] := List.length_eq_zero_iff.1 hL
    subst hLL
    refine ⟨rfl, _, ⟨T, base, W, rw, Q, V, Bb, _, al, _, _, rfl, ?_, ⟨hSu, hop.2⟩, rfl, hby.lo (Lo.of_ow hO hop.2.2.2)⟩, hO.heap (ky.heap hBx (by simp)) ⟨by decide, by decide, by decide⟩, fun y cs hy => hO.heap hy ⟨by decide, by decide, by decide⟩⟩
    obtain ⟨U, hU1, hU2⟩ := hO
    refine (hbg.keep ky (fun y hy => by cases hy)).keep hU1 (fun y hy _ cs t fr hh => ?_)
    rcases (hU2 y hy).2 cs t fr hh with rfl | rfl | rfl <;> exact ⟨by decide, by decide⟩
  · rintro cs2 w2 ⟨T, base, W, rw, Q, V, Bb, bv, al, qf, L, rfl, -⟩
    exact ⟨rfl, rfl, rfl⟩
  · rintro e w' ⟨rfl, av', cs2, hP, hB', ho⟩
    obtain ⟨T, base, W, rw, Q, V, Bb, bv, al, qf, L, rfl, h2, h3, h4, h5⟩ := hP
    exact ⟨⟨_, rfl⟩, _, av', _, _, ⟨T, base, W, rw, Q, V, Bb, bv, al, qf, L, rfl, h2, h3, h4, h5.cut⟩, hB', ho⟩
theorem PW2.cl (x : Pl) (o av : Value) (ss : List OpS) (q : Bool) (ev : Int) (cs : Array Value) : Cl x.lw (PW2 x o av ss q ev cs) := ⟨fun a b S h hc ht hl => by
  obtain ⟨T, base, W, rw, Q, V, Bb, bv, al, qf, L, gq, cq, h1, h2, h3, h4, h5, h6, h7, h8⟩ := h
  exact ⟨T, base, W, rw, Q, V, Bb, bv, al, qf, L, gq, cq, h1, h2.tp hc ht (by decide), h3.tp149 hc ht, h4.keepA hc (ht.av (by decide)) (ht.map h4.buf.2), h5, h6, h7.keep hc (ht.av (by decide)), h8.tp hc ht (by decide) hl⟩⟩
def StW2 (x : Pl) (ss : List OpS) (q : Bool) (ev : Int) (na : Nat) (w : World) : Prop := ∃ o av cs xs, PW2 x o av ss q ev cs w ∧ SchB w x.K cs ∧ w.ownsRow x.lw 39 5 av na xs
set_option maxRecDepth 100000 in
set_option maxHeartbeats 1000000 in
theorem sc1 (x : Pl) (w : World) {ss : List OpS} {ev : Int} {na : Nat} (h : Stg2 x (⟨4, 0, 0, 0, none⟩ :: ss) false ev 1 na w) (hev : 0 ≤ ev ∧ ev ≤ 1000000) (hKl : x.lw ≤ x.K) (hlw : x.lw ≤ w.heap.size) :
    Calls Tryz.prog 10 #[.pointer (some ⟨x.K, 0, none⟩), .int .i64 2] w fun e w' => e = .returned (.tuple #[.agg #[.int .i64 0, .int .i64 0, .int .i64 0, .int .i64 0, .slice none 0 0], .int .i64 16]) ∧ StW2 x (⟨4, 0, 0, 0, none⟩ :: ss) true (ev + 1) na w' := by
  obtain ⟨o, av, cs, xs, hP, hB, ho⟩ := h
  have hPw := hP
  obtain ⟨T, base, W, rw, Q, V, Bb, bv, al, qf, L, rfl, -, -, -, hb⟩ := hPw
  obtain ⟨g, off, c, pp, pn, pc, rfl, hc, ⟨cur, hg⟩, q0, q1, q2, q3, q4, -⟩ := hb.ops.head
  have hgK : g ≠ x.K := heap_ne hg hB (by simp)
  refine (step_wait w (P := PW2 x (.slice (some ⟨g, off, none⟩) (ss.length + 1) c) av (⟨4, 0, 0, 0, none⟩ :: ss) false (ev + 1)) (q := false) (m := ss.length) (x0 := 0) (x1 := 0) (x2 := 0) (x3 := 0) hlw hKl (fun cs => PW2.cl x _ _ _ _ _ cs) hB rfl rfl rfl hev hc q0 q1 q2 q3 q4 hgK ?_ ?_).mono ?_
  · intro wx kx hBx
    have hx := (PO2.cl x _ _ _ _ _ _ _).keep w wx _ hP kx (chgK hB).k66 (fun y hy => by rw [List.mem_singleton] at hy; omega)
    obtain ⟨T, base, W, rw, Q, V, Bb, bv, al, qf, L, hcs, hbg, hop, hL, hbx⟩ := hx
    rw [hcs] at hBx
    have hlx : x.lw ≤ wx.heap.size := Nat.le_trans hlw kx.size
    obtain ⟨⟨gb, cb, rfl, g0⟩, -⟩ := hbg.one
    refine do_call wx (kind := 4) (h := 1) (nb := 1) (Or.inr rfl) hlx (fun cs => PW2.cl x _ _ _ _ _ cs) (cell_is hBx 7 rfl) (by decide) g0 (cell_is hbg.blk 0 rfl) (by decide) (fun wy ky => ?_)
    refine ccall_c wy (Nat.le_trans hlx ky.size) (fun cs => PW2.cl x _ _ _ _ _ cs) (fun wz kz => ?_)
    have kyz := ky.then kz
    have hf : Fr base (dT x.d T W rw Q V) (begP (s00 x.lw)) (StoF x.lw (dT x.d T W rw Q V) (begS (s00 x.lw) T) (g00 x.lw x.ops)) := fr_sto hop.2.1 rfl rfl rfl rfl rfl
    have hbz := hbx.keep0 kyz
    have hBz := kyz.heap hBx (by simp)
    have hbgz := hbg.keep kyz (fun y hy => by cases hy)
    have hvz : VwT wz base Q x.d.X W V 0 0 := (hop.1.keep hf kyz).vw
    refine (commit_ask wz (k := 1) (n := 0) (K := x.K) (Bb := Bb) (d := dT x.d T W rw Q V) (p := begP (s00 x.lw)) hBz rfl rfl hbgz.blk rfl hf (hop.1.keep hf kyz) rfl (Nat.le_trans hlx kyz.size) hop.2.2.1 (fun wv kv => scommit_sto wv (loq := x.lw) (n := 0) (k := 1) hf (hop.1.keep hf (kyz.then kv)) rfl (World.ownsRow_nil _ _ _ _) (Nat.le_trans hlx (kyz.then kv).size) (Nat.le_refl _) rfl ⟨fun p hp => (by cases hp), fun b y hy => (by cases hy)⟩ rfl (show (0 : Int) < 1099511627776 by decide) (show (0 : Int) ≤ 0 by decide) (by omega) (by omega) (by decide) rfl rfl hop.2.2.1)).mono ?_
    rintro e w' ⟨rfl, gq, cq, hS', hW', hcs'⟩
    have hLo := Lo.of_cs hcs'
    obtain ⟨U, hU1, hU2⟩ := hcs'
    have hv' : VwT w' base Q x.d.X W V 0 0 := hvz.keep hU1 (fun y hy cs t fr hh => by
      have := (hU2 y hy (heap_lt hh)).2 cs t fr hh
      exact (by decide : ∀ u ∈ ([105, 184, 212, 237, 247, 93, 97, 34, 3, 240, 159] : List Nat), u ∉ [258, 144]) t this)
    refine ⟨rfl, _, ⟨T, base, W, rw, Q, V, Bb, _, al, _, L, gq, cq, rfl, ?_, hS', hW', hop.2.2.1, hL, hv', hbz.lo hLo⟩, hU1.heap hBz (fun hm => ?_), fun y cs hy => hLo.heap hy (by decide)⟩
    · refine hbgz.keep hU1 (fun y hy hl cs t fr hh => ?_)
      exact (by decide : ∀ u ∈ ([105, 184, 212, 237, 247, 93, 97, 34, 3, 240, 159] : List Nat), u ≠ 83 ∧ u ≠ 85) t ((hU2 y hy hl).2 cs t fr hh)
    · exact (by decide : (72 : Nat) ∉ ([105, 184, 212, 237, 247, 93, 97, 34, 3, 240, 159] : List Nat)) ((hU2 x.K hm (heap_lt hBz)).2 _ _ _ hBz)
  · rintro cs2 w2 ⟨T, base, W, rw, Q, V, Bb, bv, al, qf, L, gq, cq, rfl, -⟩
    rfl
  · rintro e w' ⟨rfl, cs2, hP, hB', h66⟩
    obtain ⟨T, base, W, rw, Q, V, Bb, bv, al, qf, L, gq, cq, rfl, h2⟩ := hP
    exact ⟨rfl, _, av, _, xs, ⟨T, base, W, rw, Q, V, Bb, bv, al, qf, L, gq, cq, rfl, h2⟩, hB', own_k66 ho h66⟩
end Go.Proofs.YtliicpedddcfiaaGreat.C2
namespace Go.Proofs.YtliicpedddcfiaaGreat.C2
open Go.RowKit Go.Lib

theorem sch_at {cs' : Array Value} {N P : Nat} {o v' bv av al : Value} {q : Bool} {ev : Int} (h1 : cs'[6]? = some v') (h2 : ∀ j, j ≠ 6 → cs'[j]? = (sch N P o bv av q al ev)[j]?) : cs' = sch N P v' bv av q al ev := by
  have e : sch N P v' bv av q al ev = (sch N P o bv av q al ev).setIfInBounds 6 v' := rfl
  rw [e]
  apply Array.ext_getElem?
  intro i
  by_cases hi : i = 6
  · subst hi
    rw [h1, Array.getElem?_setIfInBounds_self_of_lt (show 6 < 36 by decide)]
  · rw [h2 i hi, Array.getElem?_setIfInBounds_ne (Ne.symm hi)]
/-- Add at any of the second client's stages. -/
theorem add_stage (x : Pl) (w1 w : World) {N P E c : Nat} {o bv av al : Value} {q : Bool} {ev : Int} {ss ss2 : List OpS} (hB : SchB w1 x.K (sch N P o bv av q al ev)) (hb : Bs2 x o ss w1) (kc : Chg [] w1 w) (hE : OpsG w E ss2) (hEl : w1.heap.size ≤ E) (hKl : x.lw ≤ x.K) (hlw : x.lw ≤ w1.heap.size) (hn : ss.length + ss2.length ≤ 200) :
    Calls Tryz.prog 8 #[.pointer (some ⟨x.K, 0, none⟩), .int .i64 2, .slice (some ⟨E, 0, none⟩) ss2.length c] w fun e w' => e = .returned (.int .i64 0) ∧ ∃ o' S, SchB w' x.K (sch N P o' bv av q al ev) ∧ Bs2 x o' (ss ++ ss2) w' ∧ Chg S w w' ∧ Tp w S [72, 33] ∧ ∀ y ∈ S, x.lw ≤ y := by
  obtain ⟨xs, hr, hl⟩ := hb.ops
  have hB2 : SchB w x.K (sch N P o bv av q al ev) := kc.heap hB (by simp)
  have hr2 := hr.keep0 kc
  have hl2 := hl.keepT kc (fun y hy => by cases hy)
  have hne : o.ownBlock ≠ some E := fun e => by
    obtain ⟨-, cur, hh⟩ := hr.elem e
    have := heap_lt hh
    omega
  refine (sadd_o w (cs := sch N P o bv av q al ev) hB2 rfl ⟨by decide, by decide⟩ (show (sch N P o bv av q al ev)[cli 2]? = some o from rfl) hr2 hl2 (Nat.le_trans hlw kc.size) hE hne hn).mono ?_
  rintro e w' ⟨rfl, cs', v', xs', hA⟩
  have hcs : cs' = sch N P v' bv av q al ev := sch_at hA.at_ hA.rest
  have tp : Tp w (x.K :: o.ownBlock.toList) [72, 33] := fun y hy => by
    rcases List.mem_cons.1 hy with rfl | hy
    · exact ⟨_, _, hB2, by simp⟩
    · obtain ⟨-, cur, hh⟩ := hr2.elem (show o.ownBlock = some y by simpa using hy)
      exact ⟨_, _, hh, by simp⟩
  have hl3 : ∀ y ∈ x.K :: o.ownBlock.toList, x.lw ≤ y := fun y hy => by
    rcases List.mem_cons.1 hy with rfl | hy
    · exact hKl
    · exact (hr2.av y hy).1
  refine ⟨rfl, v', _, by rw [← hcs]; exact hA.blk, ⟨(hb.up.then kc (fun y hy => by cases hy)).then hA.chg (fun y hy _ => hl3 y hy), xs', hA.own, hA.ops⟩, hA.chg, tp, hl3⟩
theorem Stg2.add (x : Pl) (w1 w : World) {E c : Nat} {q : Bool} {ev : Int} {k na : Nat} {ss ss2 : List OpS} (h : Stg2 x ss q ev k na w1) (kc : Chg [] w1 w) (hE : OpsG w E ss2) (hEl : w1.heap.size ≤ E) (hKl : x.lw ≤ x.K) (hlw : x.lw ≤ w1.heap.size) (hn : ss.length + ss2.length ≤ 200) :
    Calls Tryz.prog 8 #[.pointer (some ⟨x.K, 0, none⟩), .int .i64 2, .slice (some ⟨E, 0, none⟩) ss2.length c] w fun e w' => e = .returned (.int .i64 0) ∧ Stg2 x (ss ++ ss2) q ev k na w' := by
  obtain ⟨o, av, cs, xs, ⟨T, base, W, rw, Q, V, Bb, bv, al, qf, L, rfl, h2, h3, h4, h5⟩, hB, ho⟩ := h
  refine (add_stage x w1 w (c := c) hB h5 kc hE hEl hKl hlw hn).mono ?_
  rintro e w' ⟨rfl, o', S, hB', hb', hS, tp, hl⟩
  have ho' := own_keep ho kc.below0
  refine ⟨rfl, o', av, _, xs, ⟨T, base, W, rw, Q, V, Bb, bv, al, qf, L, rfl, (h2.keep kc (fun y hy => by cases hy)).tp hS tp (by decide), Opn.keep2 (Opn.keep2 h3 kc (Tp.nil _ []) (fun t ht => by cases ht)) hS tp (by decide), h4, hb'⟩, hB', own_chgB ho' hS (fun g hg hm => ?_)⟩
  obtain ⟨-, cur, hh⟩ := own_elem ho' hg
  obtain ⟨cs2, t2, e1, e2⟩ := tp g hm
  rw [hh] at e1
  cases e1
  simp at e2
/-- a transaction whose history may be told: it has read nothing and written one block. -/
structure TxC (w : World) (d : Ids) (T base W rw Q V : Nat) (s : Gs) (st tm : Int) (L : List (Int × Value)) (D : Int → List UInt8) : Prop where
  tab : getL s.Lr 1 = some (.pointer (some ⟨T, 0, none⟩))
  tx : w.heap[T]? = some (.cells #[.int .i64 st, .int .i64 tm, .int .i64 0, .int .i64 0, .pointer (some ⟨W, 0, none⟩), .pointer (some ⟨Q, 0, none⟩)] 212 (0, 0))
  buf : BufAt w W rw L
  bd : BufD w L D
  bk : ∀ x ∈ L, 0 ≤ x.1 ∧ x.1 < 258
  len : L.length = 1
  vw : VwT w base Q d.X W V 0 0
theorem TxC.keep {w w' : World} {S ts : List Nat} {d : Ids} {T base W rw Q V : Nat} {s : Gs} {st tm : Int} {L : List (Int × Value)} {D : Int → List UInt8} (h : TxC w d T base W rw Q V s st tm L D) (hc : Chg S w w') (tp : Tp w S ts) (hts : ∀ t ∈ ts, t ∈ [72, 39, 85, 83, 33]) : TxC w' d T base W rw Q V s st tm L D := by
  have hd : ∀ t ∈ ts, t ∉ [212, 260, 5, 258, 144] := fun t ht => (by decide : ∀ u ∈ ([72, 39, 85, 83, 33] : List Nat), u ∉ [212, 260, 5, 258, 144]) t (hts t ht)
  have av : Av w S [212, 260, 5, 258, 144] := tp.av (fun t ht hm => hd t ht hm)
  have sub : ∀ us : List Nat, (∀ t ∈ us, t ∈ [212, 260, 5, 258, 144]) → Av w S us := fun us hu x hx cs t fr hh ht => av x hx cs t fr hh (hu t ht)
  exact ⟨h.tab, hc.heap h.tx (av.ne h.tx (by simp)), h.buf.keep hc (av.ne h.buf.1 (by simp)) (tp.map h.buf.2), h.bd.keepA hc (sub _ (by decide)), h.bk, h.len, h.vw.keep hc (sub _ (by decide))⟩
/-- a stage ahead of a crash. -/
def StC (x : Pl) (ss : List OpS) (q : Bool) (st tm ev : Int) (na : Nat) (w : World) : Prop :=
  ∃ o av bv al Bb xs T base W rw Q V s L D, SchB w x.K (sch x.d.N x.d.P o bv av q al ev) ∧ Beg2 w x.lw Bb bv al (begC 1 1 0) ∧ Sto w x.lw (dT x.d T W rw Q V) s (g00 x.lw x.ops) ∧ TxC w x.d T base W rw Q V s st tm L D ∧ Bs2 x o ss w ∧ w.ownsRow x.lw 39 5 av na xs
theorem StC.of_open {x : Pl} {w : World} {ss : List OpS} {q : Bool} {ev : Int} {na : Nat} (h : Stg2 x ss q ev 1 na w) : StC x ss q 1 0 ev na w := by
  obtain ⟨o, av, cs, xs, ⟨T, base, W, rw, Q, V, Bb, bv, al, qf, L, rfl, h2, h3, h4, h5⟩, hB, ho⟩ := h
  have hS := h3.1
  exact ⟨o, av, bv, al, Bb, xs, T, base, W, rw, Q, V, begS (s00 x.lw) T, L, qf, hB, h2, hS.env, ⟨rfl, hS.tx, hS.buf, hS.bufD, hS.keys, h4, hS.vw⟩, h5, ho⟩
theorem StC.of_wait {x : Pl} {w : World} {ss : List OpS} {q : Bool} {ev : Int} {na : Nat} (h : StW2 x ss q ev na w) : StC x ss q 2 1 ev na w := by
  obtain ⟨o, av, cs, xs, ⟨T, base, W, rw, Q, V, Bb, bv, al, qf, L, gq, cq, rfl, h2, h3, h4, h5, h6, h7, h8⟩, hB, ho⟩ := h
  exact ⟨o, av, bv, al, Bb, xs, T, base, W, rw, Q, V, _, L, qf, hB, h2, h3, ⟨h4.tab, h4.tx, h4.buf, h4.bd, h4.bk, h6, h7⟩, h8, ho⟩
theorem StC.add (x : Pl) (w1 w : World) {E c : Nat} {q : Bool} {st tm ev : Int} {na : Nat} {ss ss2 : List OpS} (h : StC x ss q st tm ev na w1) (kc : Chg [] w1 w) (hE : OpsG w E ss2) (hEl : w1.heap.size ≤ E) (hKl : x.lw ≤ x.K) (hlw : x.lw ≤ w1.heap.size) (hn : ss.length + ss2.length ≤ 200) :
    Calls Tryz.prog 8 #[.pointer (some ⟨x.K, 0, none⟩), .int .i64 2, .slice (some ⟨E, 0, none⟩) ss2.length c] w fun e w' => e = .returned (.int .i64 0) ∧ StC x (ss ++ ss2) q st tm ev na w' := by
  obtain ⟨o, av, bv, al, Bb, xs, T, base, W, rw, Q, V, s, L, D, hB, h2, h3, h4, h5, ho⟩ := h
  refine (add_stage x w1 w (c := c) hB h5 kc hE hEl hKl hlw hn).mono ?_
  rintro e w' ⟨rfl, o', S, hB', hb', hS, tp, hl⟩
  have ho' := own_keep ho kc.below0
  have h3' := h3.keep kc
  refine ⟨rfl, o', av, bv, al, Bb, xs, T, base, W, rw, Q, V, s, L, D, hB', (h2.keep kc (fun y hy => by cases hy)).tp hS tp (by decide), h3'.keepA hS (tp.av (by decide)) (tp.map h3'.mx.ver.m) (tp.map h3'.mx.book.2) (tp.map h3'.mx.map), (h4.keep kc (Tp.nil _ []) (fun t ht => by cases ht)).keep hS tp (by decide), hb', own_chgB ho' hS (fun g hg hm => ?_)⟩
  obtain ⟨-, cur, hh⟩ := own_elem ho' hg
  obtain ⟨cs2, t2, e1, e2⟩ := tp g hm
  rw [hh] at e1
  cases e1
  simp at e2
/-- a history's writes: one put. -/
def PPut (v : Value) (w : World) : Prop := ∃ b l, PutsAt w b v l ∧ l.length = 1
theorem PPut.kx (ts : List Nat) (h5 : 5 ∉ ts) (h37 : 37 ∉ ts) : KX ts PPut := fun v a b S ⟨lo, l, hp, hl⟩ hc tp =>
  ⟨lo, l, hp.keep hc (tp.av (fun t ht hm => h5 (by simp at hm; subst hm; exact ht))) (fun g hg hm => by
    obtain ⟨-, cs, hh⟩ := hp.block g hg
    obtain ⟨cs2, t2, e1, e2⟩ := tp g hm
    rw [hh] at e1
    cases e1
    exact h37 e2), hl⟩
/-- a history without reads. -/
def PNil (v : Value) (_ : World) : Prop := v = .slice none 0 0
theorem PNil.kx (ts : List Nat) : KX ts PNil := fun _ _ _ _ h _ _ => h
/-- the transaction's history may be told. -/
theorem TxC.hist {w : World} {lw : Nat} {d : Ids} {T base W rw Q V : Nat} {s : Gs} {g : Gd} {st tm : Int} {L : List (Int × Value)} {D : Int → List UInt8} (h : TxC w d T base W rw Q V s st tm L D) (hS : Sto w lw (dT d T W rw Q V) s g) :
    Calls Tryz.prog 30 #[.pointer (some ⟨d.P, 0, none⟩), .int .i64 1] w (HiR w st tm 0 PNil PPut) := by
  refine shist w (P := d.P) (M := d.M) (cell_is hS.store 5 rfl) (PNil.kx _) (PPut.kx _ (by decide) (by decide)) (fun wx kx => ?_)
  have hSx := hS.keep kx
  have hx := h.keep kx (Tp.nil _ []) (fun t ht => by cases ht)
  refine thist wx (T := T) (W := W) (Q := Q) hSx.mx.cells.1 hSx.mx.cells.2.2.1 hSx.mx.map hx.tab hx.tx (PNil.kx _) (PPut.kx _ (by decide) (by decide)) (fun wy ky => ?_) (fun wy ky => ?_)
  · have hy := hx.keep ky (Tp.nil _ []) (fun t ht => by cases ht)
    refine (vreads0 wy hy.vw).mono ?_
    rintro e w' ⟨rfl, rfl⟩
    exact ⟨none, 0, 0, rfl, Chg.refl _ _, rfl⟩
  · have hy := hx.keep ky (Tp.nil _ []) (fun t ht => by cases ht)
    refine (bputs_any wy hy.buf hy.bd hy.bk (by have := hy.len; omega)).mono ?_
    rintro e w' ⟨v, rfl, k, hp⟩
    obtain ⟨xs, ho, hx⟩ := hp
    obtain ⟨pa, c, rfl, -⟩ := own_form ho
    exact ⟨pa, _, c, rfl, k, _, _, ⟨xs, ho, hx⟩, by rw [putsL_length]; exact hy.len⟩
/-- a stage behind a crash: the transaction of before is none any more. -/
def PD (x : Pl) (o av : Value) (ss : List OpS) (st tm ev : Int) (cs : Array Value) (w : World) : Prop :=
  ∃ bv al Bb d b ops p n c p2 n2 c2, cs = sch d.N d.P o bv av false al ev ∧ Beg2 w x.lw Bb bv al (deadC 1 0 st 0 tm (.slice p n c) (.slice p2 n2 c2)) ∧ Sto w b d (s00 b) (g00 b ops) ∧ x.lw ≤ b ∧ b ≤ w.heap.size ∧ PNil (.slice p n c) w ∧ PPut (.slice p2 n2 c2) w ∧ Bs2 x o ss w
def StD (x : Pl) (ss : List OpS) (st tm ev : Int) (na : Nat) (w : World) : Prop := ∃ o av cs xs, PD x o av ss st tm ev cs w ∧ SchB w x.K cs ∧ w.ownsRow x.lw 39 5 av na xs
set_option maxHeartbeats 1000000 in
theorem StC.crash (x : Pl) (w : World) {q : Bool} {st tm ev : Int} {na : Nat} {ss ss' : List OpS} (h : StC x ss q st tm ev na w) (hq : (q = false ∧ ss' = ss) ∨ (q = true ∧ ∃ s, ss = s :: ss')) (hev : 0 ≤ ev ∧ ev ≤ 1000000) (hKl : x.lw ≤ x.K) (hlw : x.lw ≤ w.heap.size) :
    Calls Tryz.prog 14 #[.pointer (some ⟨x.K, 0, none⟩), .slice none 0 0, .slice none 0 0] w fun e w' => e = .returned (.int .i64 0) ∧ StD x ss' (endS st) tm (ev + 1) na w' := by
  obtain ⟨o, av, bv, al, Bb, xs, T, base, W, rw, Q, V, s, L, D, hB, h2, h3, h4, h5, ho⟩ := h
  obtain ⟨o', ho', hb'⟩ : ∃ o', ((q = false ∧ o' = o) ∨ (q = true ∧ ∃ g off m c, o = .slice (some ⟨g, off, none⟩) (m + 1) c ∧ m + 1 ≤ c ∧ o' = cutV g off m c)) ∧ (Bs2 x o ss w → Bs2 x o' ss' w) := by
    rcases hq with ⟨h1, rfl⟩ | ⟨h1, s, rfl⟩
    · exact ⟨o, Or.inl ⟨h1, rfl⟩, id⟩
    · obtain ⟨g, off, c, pp, pn, pc, rfl, hc, -⟩ := h5.ops.head
      exact ⟨cutV g off ss'.length c, Or.inr ⟨h1, g, off, _, c, rfl, hc, rfl⟩, fun h => h.cut⟩
  have hb5 := hb' h5
  obtain ⟨-, ga, ca, rfl, ga0⟩ := h2.one
  have tK : Tp w [x.K] [72] := chgK hB
  have hgK : ga ≠ x.K := by
    obtain ⟨-, cur, hh⟩ := own_elem h2.oa (g := ga) rfl
    exact heap_ne hh hB (by simp)
  refine (scrash_ok w (s := s) (st := st) (tm := tm) (t := 0) (PR := PNil) (PP := PPut) h3 hB hev rfl ga0 hgK h2.blk (by decide) ho' (PNil.kx _) (PPut.kx _ (by decide) (by decide)) (PNil.kx _) (PPut.kx _ (by decide) (by decide)) (fun wx kx => ?_)).mono ?_
  · exact (h4.keep kx tK (by decide)).hist (h3.keepA kx (tK.av (by decide)) (tK.map h3.mx.ver.m) (tK.map h3.mx.book.2) (tK.map h3.mx.map))
  · rintro e w' ⟨rfl, d, b, ops, p, n, c, p2, n2, c2, hS, -, hsz, hsz', hB', hBb, hR, hP, hc⟩
    have tp : Tp w [x.K, Bb] [72, 85] := fun y hy => by
      simp at hy
      rcases hy with rfl | rfl
      · exact ⟨_, _, hB, by simp⟩
      · exact ⟨_, _, h2.blk, by simp⟩
    have hle : ∀ y ∈ [x.K, Bb], x.lw ≤ y := fun y hy => by
      simp at hy
      rcases hy with rfl | rfl
      · exact hKl
      · exact h2.low
    have n83 : ∀ {v : Value} {m : Nat} {ys : List Value} {e sz : Nat}, w.ownsRow x.lw e sz v m ys → e ∉ [72, 85] → ∀ g, v.ownBlock = some g → g ∉ [x.K, Bb] := fun hoo he g hg hm => by
      obtain ⟨-, cur, hh⟩ := own_elem hoo hg
      obtain ⟨cs2, t2, e1, e2⟩ := tp g hm
      rw [hh] at e1
      cases e1
      exact he e2
    refine ⟨rfl, o', av, _, xs, ⟨bv, _, Bb, d, b, ops, p, n, c, p2, n2, c2, rfl, ⟨own_chgB h2.ob hc (n83 h2.ob (by decide)), own_chgB h2.oa hc (n83 h2.oa (by decide)), h2.ne, hBb, h2.low⟩, hS, Nat.le_trans hlw hsz, hsz', hR, hP, hb5.tp hc tp (by decide) hle⟩, hB', own_chgB ho hc (n83 ho (by decide))⟩
end Go.Proofs.YtliicpedddcfiaaGreat.C2
namespace Go.Proofs.YtliicpedddcfiaaGreat.C2
open Go.RowKit Go.Lib

set_option maxRecDepth 100000 in
theorem at_dead (w : World) {K : Nat} {o g c n Bb : Nat} {i : Int} (c1 : w.cell? ⟨K, o + 1, none⟩ = some (.slice (some ⟨g, 0, none⟩) n c)) (i0 : i = 0) (hn : 0 < n) (g0 : w.cell? ⟨g, 0, none⟩ = some (.pointer (some ⟨Bb, 0, none⟩))) (b0 : w.cell? ⟨Bb, 0, none⟩ = some (.int .i64 0)) :
    Calls Tryz.prog 50 #[.pointer (some ⟨K, o, none⟩), .int .i64 i] w fun e w' => e = .returned (.pointer none) ∧ w = w' := by
  subst i0
  have n1 : decide ((n : Int) ≤ 0) = false := decide_eq_false (by omega)
  go_enter Tryz.func50, Tryz.ntmps50
  go_wp2_with fail
  go_ret
  exact ⟨rfl, rfl⟩
set_option maxRecDepth 100000 in
set_option maxHeartbeats 4000000 in
theorem do_dead (w : World) {K Bb lw gb nb cb : Nat} {P : Array Value → World → Prop} {cs0 : Array Value} {oa ol : Int} {pp : Option Addr} {pn pc : Nat} (hlw : lw ≤ w.heap.size) (hP : ∀ cs, Cl lw (P cs)) (hP0 : P cs0 w) (hB0 : SchB w K cs0)
    (c3 : w.cell? ⟨K, 7, none⟩ = some (.slice (some ⟨gb, 0, none⟩) nb cb)) (hnb : 0 < nb) (g0 : w.cell? ⟨gb, 0, none⟩ = some (.pointer (some ⟨Bb, 0, none⟩))) (b0 : w.cell? ⟨Bb, 0, none⟩ = some (.int .i64 0)) :
    Calls Tryz.prog 22 #[.pointer (some ⟨K, 0, none⟩), .pointer (some ⟨K, 6, none⟩), .agg #[.int .i64 2, .int .i64 0, .int .i64 oa, .int .i64 ol, .slice pp pn pc]] w (DoR w K P 2 5 0 0 true) := by
  have kk : Chg [] w ((w.alloc (.cells #[.int .i64 2, .int .i64 0, .int .i64 oa, .int .i64 ol, .slice pp pn pc] 33)).alloc (.cells #[.int .i64 0, .int .i64 0, .int .i64 0, .int .i64 0, .slice none 0 0] 39)) := (Chg.alloc w _).then_alloc _
  obtain ⟨y1, y2⟩ := heap_new2 w (.cells #[.int .i64 2, .int .i64 0, .int .i64 oa, .int .i64 ol, .slice pp pn pc] 33) (.cells #[.int .i64 0, .int .i64 0, .int .i64 0, .int .i64 0, .slice none 0 0] 39)
  generalize hw0 : (w.alloc (.cells #[.int .i64 2, .int .i64 0, .int .i64 oa, .int .i64 ol, .slice pp pn pc] 33)).alloc (.cells #[.int .i64 0, .int .i64 0, .int .i64 0, .int .i64 0, .slice none 0 0] 39) = w0 at *
  have hz1 := heap_lt y1
  generalize hz : w.heap.size = z at *
  have z0 := cell_is y1 0 rfl
  have z1 := cell_is y1 1 rfl
  have z2 := cell_is y1 2 rfl
  have z3 := cell_is y1 3 rfl
  have z4 := cell_is y1 4 rfl
  have t0 := cell_is y2 0 rfl
  have t1 := cell_is y2 1 rfl
  have t2 := cell_is y2 2 rfl
  have t3 := cell_is y2 3 rfl
  have t4 := cell_is y2 4 rfl
  have e0 := unfrozen y2 0
  have e1 := unfrozen y2 1
  have e2 := unfrozen y2 2
  have e3 := unfrozen y2 3
  have e4 := unfrozen y2 4
  go_enter Tryz.func22, Tryz.ntmps22
  go_upto_region 1 with fail
  apply wp_scope_straight
  go_upto_region 2 with fail
  have v2 : (((((w0.setCell ⟨z + 1, 0, none⟩ (.int .i64 2)).setCell ⟨z + 1, 1, none⟩ (.int .i64 0)).setCell ⟨z + 1, 2, none⟩ (.int .i64 0)).setCell ⟨z + 1, 3, none⟩ (.int .i64 0)).setCell ⟨z + 1, 4, none⟩ (.slice none 0 0)).heap[z + 1]? = some (.cells #[.int .i64 2, .int .i64 0, .int .i64 0, .int .i64 0, .slice none 0 0] 39 (0, 0)) := (set5 _ _ _ _ _ y2).1
  have k2 := (set5 (.int .i64 2) (.int .i64 0) (.int .i64 0) (.int .i64 0) (.slice none 0 0) y2).2
  generalize ((((w0.setCell ⟨z + 1, 0, none⟩ (.int .i64 2)).setCell ⟨z + 1, 1, none⟩ (.int .i64 0)).setCell ⟨z + 1, 2, none⟩ (.int .i64 0)).setCell ⟨z + 1, 3, none⟩ (.int .i64 0)).setCell ⟨z + 1, 4, none⟩ (.slice none 0 0) = w1 at *
  have kk1 : Chg [] w w1 := kk.trans k2 (fun x hx hlt => by rw [List.mem_singleton] at hx; omega)
  have v1 := k2.heap y1 (by simp)
  clear z0 z1 z2 z3 z4 t0 t1 t2 t3 t4 e0 e1 e2 e3 e4
  have z0 := cell_is v1 0 rfl
  have z1 := cell_is v1 1 rfl
  have z2 := cell_is v1 2 rfl
  have z3 := cell_is v1 3 rfl
  have z4 := cell_is v1 4 rfl
  have t0 := cell_is v2 0 rfl
  have t1 := cell_is v2 1 rfl
  have t2 := cell_is v2 2 rfl
  have t3 := cell_is v2 3 rfl
  have t4 := cell_is v2 4 rfl
  have HA := Lib.hid (at_dead w1 (K := K) (o := 6) (kk1.cell c3 (by simp)) rfl hnb (kk1.cell g0 (by simp)) (kk1.cell b0 (by simp)))
  have HX := Lib.hid (And.intro v2 kk1)
  have HP := Lib.hid (And.intro hP0 hB0)
  clear v1 kk y1 y2 k2 c3 g0 b0 hP0 hB0
  have f0 := unfrozen v2 0
  have f1 := unfrozen v2 1
  have f2 := unfrozen v2 2
  have f3 := unfrozen v2 3
  have f4 := unfrozen v2 4
  clear v2 kk1
  go_wp2_with fail
  refine HA.out.mono ?_
  rintro e w2 ⟨rfl, rfl⟩
  go_wp2_with fail
  apply wp_label
  go_wp2_with fail
  obtain ⟨v2, kk1⟩ := HX.out
  have u2 : (w1.setCell ⟨z + 1, 1, none⟩ (.int .i64 5)).heap[z + 1]? = some (.cells #[.int .i64 2, .int .i64 5, .int .i64 0, .int .i64 0, .slice none 0 0] 39 (0, 0)) := heap_set v2 1 _ rfl
  have ku : Chg [z + 1] w1 (w1.setCell ⟨z + 1, 1, none⟩ (.int .i64 5)) := Chg.set _ _ _ _
  obtain ⟨y11, k11⟩ := set5 (.int .i64 2) (.int .i64 5) (.int .i64 0) (.int .i64 0) (.slice none 0 0) u2
  have kf := kk1.trans (ku.then k11) (fun x hx hlt => by rw [List.mem_singleton] at hx; omega)
  have HF := Lib.hid kf
  clear ku k11 kf v2 kk1 u2 t0 t1 t2 t3 t4 f0 f1 f2 f3 f4 z0 z1 z2 z3 z4
  generalize ((((((w1.setCell ⟨z + 1, 1, none⟩ (.int .i64 5)).setCell ⟨z + 1, 0, none⟩ (.int .i64 2)).setCell ⟨z + 1, 1, none⟩ (.int .i64 5)).setCell ⟨z + 1, 2, none⟩ (.int .i64 0)).setCell ⟨z + 1, 3, none⟩ (.int .i64 0)).setCell ⟨z + 1, 4, none⟩ (.slice none 0 0)) = w6 at *
  have r0 := cell_is y11 0 rfl
  have r1 := cell_is y11 1 rfl
  have r2 := cell_is y11 2 rfl
  have r3 := cell_is y11 3 rfl
  have r4 := cell_is y11 4 rfl
  simp only [Exit.noGoto]
  refine bodyPost_ret (v := .tuple #[.agg #[.int .i64 2, .int .i64 5, .int .i64 0, .int .i64 0, .slice none 0 0], .bool true]) (by simp [results, Tryz.results22, go_sem, r0, r1, r2, r3, r4]) rfl ?_
  exact ⟨rfl, cs0, (hP cs0).keep w w6 [] HP.out.1 HF.out (Tp.nil _ _) (fun x hx => by cases hx), HF.out.heap HP.out.2 (by simp), K66.of0 HF.out⟩
end Go.Proofs.YtliicpedddcfiaaGreat.C2
namespace Go.Proofs.YtliicpedddcfiaaGreat.C2
open Go.RowKit Go.Lib

/-- what an op's call that hands back a block's bytes leaves. -/
def DoRD (w : World) (K : Nat) (P : Array Value → World → Prop) (x0 x1 x2 x3 : Int) (l : List UInt8) (e : Ending) (w' : World) : Prop :=
  ∃ g c2, e = .returned (.tuple #[.agg #[.int .i64 x0, .int .i64 x1, .int .i64 x2, .int .i64 x3, .slice (some ⟨g, 0, none⟩) 40 c2], .bool true]) ∧ Bs w' (some ⟨g, 0, none⟩) l ∧ w.heap.size ≤ g ∧ Bt w' g ∧ ∃ cs, P cs w' ∧ SchB w' K cs ∧ K66 w w'
set_option maxRecDepth 100000 in
theorem at_one (w : World) {K : Nat} {o g c n Bb : Nat} {i h : Int} (c1 : w.cell? ⟨K, o + 1, none⟩ = some (.slice (some ⟨g, 0, none⟩) n c)) (i0 : i = 1) (hn : 1 < n) (g0 : w.cell? ⟨g, 1, none⟩ = some (.pointer (some ⟨Bb, 0, none⟩))) (b0 : w.cell? ⟨Bb, 0, none⟩ = some (.int .i64 h)) (hh : 0 < h) :
    Calls Tryz.prog 50 #[.pointer (some ⟨K, o, none⟩), .int .i64 i] w fun e w' => e = .returned (.pointer (some ⟨Bb, 0, none⟩)) ∧ w = w' := by
  subst i0
  have n1 : decide ((n : Int) ≤ 1) = false := decide_eq_false (by omega)
  have n2 : decide (h = 0) = false := decide_eq_false (by omega)
  go_enter Tryz.func50, Tryz.ntmps50
  go_wp2_with fail
  go_ret
  exact ⟨rfl, rfl⟩
set_option maxRecDepth 100000 in
set_option maxHeartbeats 4000000 in
theorem do_read (w : World) {K Bb lw gb nb cb : Nat} {P : Array Value → World → Prop} {oa ol h x0 x1 x2 x3 : Int} {pp : Option Addr} {pn pc : Nat} {l : List UInt8} (hlw : lw ≤ w.heap.size) (hP : ∀ cs, Cl lw (P cs))
    (c3 : w.cell? ⟨K, 7, none⟩ = some (.slice (some ⟨gb, 0, none⟩) nb cb)) (hnb : 1 < nb) (g0 : w.cell? ⟨gb, 1, none⟩ = some (.pointer (some ⟨Bb, 0, none⟩))) (b0 : w.cell? ⟨Bb, 0, none⟩ = some (.int .i64 h)) (hh : 0 < h)
    (HC : ∀ wx, Chg [] w wx → Calls Tryz.prog 51 #[.pointer (some ⟨K, 0, none⟩), .pointer (some ⟨K, 6, none⟩), .pointer (some ⟨Bb, 0, none⟩), .agg #[.int .i64 2, .int .i64 1, .int .i64 oa, .int .i64 ol, .slice pp pn pc], .agg #[.int .i64 2, .int .i64 0, .int .i64 1, .int .i64 0, .slice none 0 0]] wx (DoRD wx K P x0 x1 x2 x3 l)) :
    Calls Tryz.prog 22 #[.pointer (some ⟨K, 0, none⟩), .pointer (some ⟨K, 6, none⟩), .agg #[.int .i64 2, .int .i64 1, .int .i64 oa, .int .i64 ol, .slice pp pn pc]] w (DoRD w K P x0 x1 x2 x3 l) := by
  have kk : Chg [] w ((w.alloc (.cells #[.int .i64 2, .int .i64 1, .int .i64 oa, .int .i64 ol, .slice pp pn pc] 33)).alloc (.cells #[.int .i64 0, .int .i64 0, .int .i64 0, .int .i64 0, .slice none 0 0] 39)) := (Chg.alloc w _).then_alloc _
  obtain ⟨y1, y2⟩ := heap_new2 w (.cells #[.int .i64 2, .int .i64 1, .int .i64 oa, .int .i64 ol, .slice pp pn pc] 33) (.cells #[.int .i64 0, .int .i64 0, .int .i64 0, .int .i64 0, .slice none 0 0] 39)
  generalize hw0 : (w.alloc (.cells #[.int .i64 2, .int .i64 1, .int .i64 oa, .int .i64 ol, .slice pp pn pc] 33)).alloc (.cells #[.int .i64 0, .int .i64 0, .int .i64 0, .int .i64 0, .slice none 0 0] 39) = w0 at *
  have hz1 := heap_lt y1
  generalize hz : w.heap.size = z at *
  have z0 := cell_is y1 0 rfl
  have z1 := cell_is y1 1 rfl
  have z2 := cell_is y1 2 rfl
  have z3 := cell_is y1 3 rfl
  have z4 := cell_is y1 4 rfl
  have t0 := cell_is y2 0 rfl
  have t1 := cell_is y2 1 rfl
  have t2 := cell_is y2 2 rfl
  have t3 := cell_is y2 3 rfl
  have t4 := cell_is y2 4 rfl
  have e0 := unfrozen y2 0
  have e1 := unfrozen y2 1
  have e2 := unfrozen y2 2
  have e3 := unfrozen y2 3
  have e4 := unfrozen y2 4
  go_enter Tryz.func22, Tryz.ntmps22
  go_upto_region 1 with fail
  apply wp_scope_straight
  go_upto_region 2 with fail
  have v2 : (((((w0.setCell ⟨z + 1, 0, none⟩ (.int .i64 2)).setCell ⟨z + 1, 1, none⟩ (.int .i64 0)).setCell ⟨z + 1, 2, none⟩ (.int .i64 1)).setCell ⟨z + 1, 3, none⟩ (.int .i64 0)).setCell ⟨z + 1, 4, none⟩ (.slice none 0 0)).heap[z + 1]? = some (.cells #[.int .i64 2, .int .i64 0, .int .i64 1, .int .i64 0, .slice none 0 0] 39 (0, 0)) := (set5 _ _ _ _ _ y2).1
  have k2 := (set5 (.int .i64 2) (.int .i64 0) (.int .i64 1) (.int .i64 0) (.slice none 0 0) y2).2
  generalize ((((w0.setCell ⟨z + 1, 0, none⟩ (.int .i64 2)).setCell ⟨z + 1, 1, none⟩ (.int .i64 0)).setCell ⟨z + 1, 2, none⟩ (.int .i64 1)).setCell ⟨z + 1, 3, none⟩ (.int .i64 0)).setCell ⟨z + 1, 4, none⟩ (.slice none 0 0) = w1 at *
  have kk1 : Chg [] w w1 := kk.trans k2 (fun x hx hlt => by rw [List.mem_singleton] at hx; omega)
  have v1 := k2.heap y1 (by simp)
  clear z0 z1 z2 z3 z4 t0 t1 t2 t3 t4 e0 e1 e2 e3 e4
  have z0 := cell_is v1 0 rfl
  have z1 := cell_is v1 1 rfl
  have z2 := cell_is v1 2 rfl
  have z3 := cell_is v1 3 rfl
  have z4 := cell_is v1 4 rfl
  have t0 := cell_is v2 0 rfl
  have t1 := cell_is v2 1 rfl
  have t2 := cell_is v2 2 rfl
  have t3 := cell_is v2 3 rfl
  have t4 := cell_is v2 4 rfl
  have HA := Lib.hid (at_one w1 (K := K) (o := 6) (kk1.cell c3 (by simp)) rfl hnb (kk1.cell g0 (by simp)) (kk1.cell b0 (by simp)) hh)
  have HCo := Lib.hid (HC w1 kk1)
  have HX := Lib.hid (And.intro v2 kk1)
  clear HC v2 kk1 v1 kk y1 y2 k2 c3 g0 b0
  go_wp2_with fail
  refine HA.out.mono ?_
  rintro e w2 ⟨rfl, rfl⟩
  go_wp2_with fail
  apply wp_label
  go_wp2_with fail
  refine HCo.out.mono ?_
  rintro e w3 ⟨g, c2, rfl, hbs, hgl, hbt, cs, hp, hK, h66⟩
  have y31 := h66 _ _ HX.out.1
  have s0 := cell_is y31 0 rfl
  have s1 := cell_is y31 1 rfl
  have s2 := cell_is y31 2 rfl
  have s3 := cell_is y31 3 rfl
  have s4 := cell_is y31 4 rfl
  have e0 := unfrozen y31 0
  have e1 := unfrozen y31 1
  have e2 := unfrozen y31 2
  have e3 := unfrozen y31 3
  have e4 := unfrozen y31 4
  have HR := Lib.hid (And.intro hp (And.intro hK (And.intro h66 (And.intro hbs (And.intro hgl hbt)))))
  clear hp hK h66 hbs hgl hbt z0 z1 z2 z3 z4 t0 t1 t2 t3 t4
  go_wp2_with fail
  obtain ⟨y11, k11⟩ := set5 (.int .i64 x0) (.int .i64 x1) (.int .i64 x2) (.int .i64 x3) (.slice (some ⟨g, 0, none⟩) 40 c2) y31
  generalize ((((w3.setCell ⟨z + 1, 0, none⟩ (.int .i64 x0)).setCell ⟨z + 1, 1, none⟩ (.int .i64 x1)).setCell ⟨z + 1, 2, none⟩ (.int .i64 x2)).setCell ⟨z + 1, 3, none⟩ (.int .i64 x3)).setCell ⟨z + 1, 4, none⟩ (.slice (some ⟨g, 0, none⟩) 40 c2) = w6 at *
  have r0 := cell_is y11 0 rfl
  have r1 := cell_is y11 1 rfl
  have r2 := cell_is y11 2 rfl
  have r3 := cell_is y11 3 rfl
  have r4 := cell_is y11 4 rfl
  obtain ⟨hp, hK, h66, hbs, hgl, hbt⟩ := HR.out
  have tp : Tp w3 [z + 1] [39] := fun x hx => by
    rw [List.mem_singleton] at hx
    subst hx
    exact ⟨_, _, y31, by simp⟩
  simp only [Exit.noGoto]
  refine bodyPost_ret (v := .tuple #[.agg #[.int .i64 x0, .int .i64 x1, .int .i64 x2, .int .i64 x3, .slice (some ⟨g, 0, none⟩) 40 c2], .bool true]) (by simp [results, Tryz.results22, go_sem, r0, r1, r2, r3, r4]) rfl ?_
  obtain ⟨cb, hcb⟩ := hbt
  have hgl2 : z ≤ g := by have := HX.out.2.size; omega
  have ng : g ∉ [z + 1] := by
    intro hm
    rw [List.mem_singleton] at hm
    exact heap_ne hcb y31 (by simp) hm
  refine ⟨g, c2, rfl, hbs.chgB k11 ng, (by omega), ⟨_, k11.heap hcb ng⟩, cs, (hP cs).box hp k11 tp (fun x hx => by rw [List.mem_singleton] at hx; omega), k11.heap hK ?_, ((K66.of0 HX.out.2).trans h66).new k11 (fun x hx => by rw [List.mem_singleton] at hx; omega)⟩
  intro hm
  rw [List.mem_singleton] at hm
  exact heap_ne hK y31 (by simp) hm
end Go.Proofs.YtliicpedddcfiaaGreat.C2
namespace Go.Proofs.YtliicpedddcfiaaGreat
open Go.RowKit Go.Lib

set_option maxRecDepth 100000 in
theorem bytes_none (w : World) : Calls Tryz.prog 24 #[.slice none 0 0, .slice none 0 0] w fun e w' => e = .returned (.bool true) ∧ w = w' := by
  go_enter Tryz.func24, Tryz.ntmps24
  go_wp2_with fail
  go_loopw [5] (fun i wr => i = .int .i64 0 ∧ w = wr) (fun _ _ => 0)
  case atStart => exact ⟨rfl, rfl⟩
  case round =>
    obtain ⟨rfl, rfl⟩ := hrel
    go_wp2_with fail
    go_ret
    exact ⟨rfl, rfl⟩
set_option maxRecDepth 100000 in
set_option maxHeartbeats 1000000 in
theorem answer_same (w : World) {a b c d : Int} : Calls Tryz.prog 11 #[.agg #[.int .i64 a, .int .i64 b, .int .i64 c, .int .i64 d, .slice none 0 0], .agg #[.int .i64 a, .int .i64 b, .int .i64 c, .int .i64 d, .slice none 0 0]] w fun e w' => e = .returned (.bool true) ∧ Chg [] w w' := by
  have kk : Chg [] w ((w.alloc (.cells #[.int .i64 a, .int .i64 b, .int .i64 c, .int .i64 d, .slice none 0 0] 39)).alloc (.cells #[.int .i64 a, .int .i64 b, .int .i64 c, .int .i64 d, .slice none 0 0] 39)) := (Chg.alloc w _).then_alloc _
  obtain ⟨y1, y2⟩ := heap_new2 w (.cells #[.int .i64 a, .int .i64 b, .int .i64 c, .int .i64 d, .slice none 0 0] 39) (.cells #[.int .i64 a, .int .i64 b, .int .i64 c, .int .i64 d, .slice none 0 0] 39)
  have hz1 := heap_lt y1
  have HQ := Lib.hid kk
  generalize hw0 : (w.alloc (.cells #[.int .i64 a, .int .i64 b, .int .i64 c, .int .i64 d, .slice none 0 0] 39)).alloc (.cells #[.int .i64 a, .int .i64 b, .int .i64 c, .int .i64 d, .slice none 0 0] 39) = w0 at *
  have c0 := cell_is y1 0 rfl
  have c1 := cell_is y1 1 rfl
  have c2 := cell_is y1 2 rfl
  have c3 := cell_is y1 3 rfl
  have c4 := cell_is y1 4 rfl
  have d0 := cell_is y2 0 rfl
  have d1 := cell_is y2 1 rfl
  have d2 := cell_is y2 2 rfl
  have d3 := cell_is y2 3 rfl
  have d4 := cell_is y2 4 rfl
  generalize hz : w.heap.size = z at *
  go_enter Tryz.func11, Tryz.ntmps11
  go_wp2_with fail
  refine (bytes_none _).mono ?_
  rintro e w1 ⟨rfl, rfl⟩
  go_wp2_with fail
  go_ret
  exact ⟨rfl, HQ.out⟩
end Go.Proofs.YtliicpedddcfiaaGreat
namespace Go.Proofs.YtliicpedddcfiaaGreat
open Go.RowKit Go.Lib

set_option maxRecDepth 100000 in
theorem round_nat (w : World) (x : Nat) : Calls Tryz.prog 48 #[.int .i64 x, .int .i64 251] w fun e w' => e = .returned (.int .i64 (x % 251 : Nat)) ∧ w = w' := by
  have ht : (x : Int).tmod 251 = ((x % 251 : Nat) : Int) := by
    rw [Int.tmod_eq_emod_of_nonneg (by omega)]
    omega
  obtain ⟨m, hm⟩ : ∃ m : Nat, m = x % 251 := ⟨_, rfl⟩
  rw [← hm] at ht ⊢
  have hm1 : m < 251 := by omega
  clear hm
  go_enter Tryz.func48, Tryz.ntmps48
  go_wp2_with fail
  go_ret
  exact ⟨rfl, rfl⟩
/-- the bytes that hang on a number. -/
def datB (i : Nat) : List UInt8 := (List.range 40).map fun j => UInt8.ofNat ((j * j + i * 7 + 1) % 251)
theorem datB_length (i : Nat) : (datB i).length = 40 := by simp [datB]
theorem datB_at (i j : Nat) (h : j < (datB i).length) : (datB i)[j] = UInt8.ofNat ((j * j + i * 7 + 1) % 251) := by simp [datB]
set_option maxRecDepth 100000 in
set_option maxHeartbeats 1000000 in
theorem block_ex (w : World) (i : Nat) (hi : i ≤ 1000) : Calls Tryz.prog 21 #[.int .i64 40, .int .i64 i] w fun e w' => ∃ g, e = .returned (.slice (some ⟨g, 0, none⟩) 40 40) ∧ Chg [] w w' ∧ w.heap.size ≤ g ∧ Fo w' g (datB i) := by
  have g0 := heap_new w (.cells (Lib.byteCells zeroF).toArray 5)
  have k0 : Chg [] w (w.alloc (.cells (Lib.byteCells zeroF).toArray 5)) := Chg.alloc w _
  have hmk := makeF
  have mx : max (40 : Int) 0 = 40 := by decide
  go_enter Tryz.func21, Tryz.ntmps21
  go_wp2_with fail
  have hz1 := heap_lt g0
  generalize w.alloc (.cells (Lib.byteCells zeroF).toArray 5) = w1 at *
  generalize hz : w.heap.size = z at *
  go_loopw [6] (fun i' wr => ∃ j : Nat, j ≤ 40 ∧ i' = .int .i64 j ∧ Chg [] w wr ∧ ∃ r, Fo wr z r ∧ r.take j = (datB i).take j) (fun i _ => 40 - (intOf i).toNat)
  case atStart => exact ⟨0, by omega, rfl, k0, zeroF, ⟨rfl, g0⟩, rfl⟩
  case round =>
    obtain ⟨j, hj, rfl, kc, r, ⟨hr, gr⟩, hrt⟩ := hrel
    by_cases hlt : j < 40
    · have n1 : decide ((j : Int) < 40) = true := decide_eq_true (by omega)
      obtain ⟨s, hs⟩ : ∃ s : Nat, s = j * j := ⟨_, rfl⟩
      have hs1 : s ≤ 1600 := by rw [hs]; exact Nat.mul_le_mul (show j ≤ 40 by omega) (show j ≤ 40 by omega)
      have hsi : (j : Int) * (j : Int) = (s : Int) := by rw [hs]; push_cast; rfl
      have HS := Lib.hid hs
      have HRt := Lib.hid hrt
      clear hs hrt
      have hfe : (s : Int) + (i : Int) * 7 + 1 = ((s + i * 7 + 1 : Nat) : Int) := by push_cast; rfl
      have HRn := Lib.hid (round_nat wr (s + i * 7 + 1))
      rw [← hfe] at HRn
      clear hfe
      go_wp2_with fail
      refine HRn.out.mono ?_
      rintro e w2 ⟨rfl, rfl⟩
      obtain ⟨m, hmm⟩ : ∃ m : Nat, m = (s + i * 7 + 1) % 251 := ⟨_, rfl⟩
      have hm : m < 251 := by omega
      rw [← hmm]
      have HMm := Lib.hid hmm
      clear hmm HRn
      have cj : wr.cell? ⟨z, j, none⟩ = some (.int .u8 (r.getD j 0).toNat) := by
        refine cell_is gr j ?_
        simp [Lib.byteCells, hr, hlt, List.getD]
      have fj := unfrozen gr j
      have hm2 : IntKind.u8.wrap (m : Int) = (m : Int) := wrap251 ⟨m, hm⟩
      have gs := heap_set gr j (.int .u8 (m : Int)) (cs' := (Lib.byteCells (r.set j (UInt8.ofNat m))).toArray) (by
        have : Value.int .u8 (m : Int) = (fun b : UInt8 => Value.int .u8 b.toNat) (UInt8.ofNat m) := by
          show _ = Value.int .u8 ((UInt8.ofNat m).toNat : Int)
          rw [UInt8.toNat_ofNat', Nat.mod_eq_of_lt (by omega)]
        rw [this]
        unfold Lib.byteCells
        rw [List.setIfInBounds_toArray, List.map_set])
      have ks : Chg [] w (wr.setCell ⟨z, j, none⟩ (.int .u8 (m : Int))) := kc.trans (Chg.set _ _ _ _) (fun x hx hlt => by simp at hx; omega)
      have htk : (r.set j (UInt8.ofNat m)).take (j + 1) = (datB i).take (j + 1) := by
        have h1 : j < (r.set j (UInt8.ofNat m)).length := by rw [List.length_set]; omega
        have h2 : j < (datB i).length := by rw [datB_length]; omega
        rw [List.take_succ_eq_append_getElem h1, List.take_succ_eq_append_getElem h2, List.take_set_of_le (Nat.le_refl j), HRt.out, datB_at, ← HS.out, List.getElem_set_self, HMm.out]
      have HF := Lib.hid (And.intro ks (And.intro gs htk))
      clear ks gs kc htk
      go_wp2_with fail
      refine ⟨⟨j + 1, by omega, by simp, HF.out.1, _, ⟨by simpa using hr, HF.out.2.1⟩, HF.out.2.2⟩, by simp [intOf]; omega⟩
    · obtain rfl : j = 40 := by omega
      have e : r = datB i := by
        rw [List.take_of_length_le (by omega), List.take_of_length_le (by rw [datB_length]; omega)] at hrt
        exact hrt
      subst e
      have HF := Lib.hid (And.intro kc gr)
      clear kc gr
      go_wp2_with fail
      go_ret
      exact ⟨z, rfl, HF.out.1, by omega, datB_length i, HF.out.2⟩
set_option maxRecDepth 100000 in
theorem data_ex (w : World) (i : Nat) (hi : i ≤ 1000) : Calls Tryz.prog 9 #[.int .i64 i] w fun e w' => ∃ g, e = .returned (.slice (some ⟨g, 0, none⟩) 40 40) ∧ Chg [] w w' ∧ w.heap.size ≤ g ∧ Fo w' g (datB i) := by
  go_enter Tryz.func9, Tryz.ntmps9
  go_wp2_with fail
  refine (block_ex w i hi).mono ?_
  rintro e w1 ⟨g, rfl, k, hl, hf⟩
  have HF := Lib.hid (And.intro k (And.intro hl hf))
  clear k hl hf
  go_wp2_with fail
  go_ret
  exact ⟨g, rfl, HF.out⟩
set_option maxRecDepth 100000 in
set_option maxHeartbeats 1000000 in
theorem bytes_same (w : World) {ga gb ca cb : Nat} {l : List UInt8} (ha : Bs w (some ⟨ga, 0, none⟩) l) (hb : Bs w (some ⟨gb, 0, none⟩) l) (hl : l.length = 40) : Calls Tryz.prog 24 #[.slice (some ⟨ga, 0, none⟩) 40 ca, .slice (some ⟨gb, 0, none⟩) 40 cb] w fun e w' => e = .returned (.bool true) ∧ Chg [] w w' := by
  have HA := Lib.hid ha
  have HB := Lib.hid hb
  clear ha hb
  go_enter Tryz.func24, Tryz.ntmps24
  go_wp2_with fail
  go_loopw [5] (fun i wr => ∃ j : Nat, j ≤ 40 ∧ i = .int .i64 j ∧ Chg [] w wr) (fun i _ => 40 - (intOf i).toNat)
  case atStart => exact ⟨0, by omega, rfl, Chg.refl _ _⟩
  case round =>
    obtain ⟨j, hj, rfl, kr⟩ := hrel
    by_cases hlt : j < 40
    · have n1 : decide ((j : Int) < 40) = true := decide_eq_true (by omega)
      have hjl : j < l.length := by omega
      have a0 := (HA.out.chg kr).at_ j hjl
      have b0 := (HB.out.chg kr).at_ j hjl
      rw [Nat.zero_add] at a0 b0
      generalize (l[j].toNat : Int) = x at *
      have hx : (x != x) = false := bne_self_eq_false x
      have HK := Lib.hid kr
      clear kr
      go_wp2_with fail
      go_quiet (fail)
      have HK2 := Lib.hid (HK.out.drewN nq)
      clear a0 b0
      go_wp2_with fail
      exact ⟨⟨j + 1, by omega, by simp, HK2.out⟩, by simp [intOf]; omega⟩
    · obtain rfl : j = 40 := by omega
      go_wp2_with fail
      go_ret
      exact ⟨rfl, kr⟩
end Go.Proofs.YtliicpedddcfiaaGreat
namespace Go.Proofs.YtliicpedddcfiaaGreat
open Go.RowKit Go.Lib

set_option maxRecDepth 100000 in
theorem kept_data (w : World) {k h a l : Int} {D c : Nat} {bs : List UInt8} (hb : Bs w (some ⟨D, 0, none⟩) bs) (hl : bs.length = 40) : Calls Tryz.prog 23 #[.agg #[.int .i64 k, .int .i64 h, .int .i64 a, .int .i64 l, .slice (some ⟨D, 0, none⟩) 40 c]] w fun e w' =>
    ∃ g c2, e = .returned (.agg #[.int .i64 k, .int .i64 h, .int .i64 a, .int .i64 l, .slice (some ⟨g, 0, none⟩) 40 c2]) ∧ Chg [] w w' ∧ Bs w' (some ⟨g, 0, none⟩) bs ∧ Bt w' g ∧ w.heap.size ≤ g := by
  have kk : Chg [] w ((w.alloc (.cells #[.int .i64 k, .int .i64 h, .int .i64 a, .int .i64 l, .slice (some ⟨D, 0, none⟩) 40 c] 39)).alloc (.cells #[.int .i64 0, .int .i64 0, .int .i64 0, .int .i64 0, .slice none 0 0] 39)) := (Chg.alloc w _).then_alloc _
  obtain ⟨y1, y2⟩ := heap_new2 w (.cells #[.int .i64 k, .int .i64 h, .int .i64 a, .int .i64 l, .slice (some ⟨D, 0, none⟩) 40 c] 39) (.cells #[.int .i64 0, .int .i64 0, .int .i64 0, .int .i64 0, .slice none 0 0] 39)
  have hb0 := hb.chgB kk (by simp)
  have hDl : ∀ x, x ∈ ([] : List Nat) → False := fun x hx => by cases hx
  clear hDl
  have HCL := Lib.hid (clone_bt _ (c := c) hl (by decide) (by decide) hb0)
  have HKK := Lib.hid (And.intro kk (And.intro y1 y2))
  clear kk y1 y2 hb hb0
  go_enter Tryz.func23, Tryz.ntmps23
  go_wp2_with fail
  refine HCL.out.mono ?_
  rintro e w0 ⟨g, c2, rfl, k1, hbs, hg, hbt⟩
  obtain ⟨kk, y1, y2⟩ := HKK.out
  clear HKK HCL
  generalize (w.alloc (.cells #[.int .i64 k, .int .i64 h, .int .i64 a, .int .i64 l, .slice (some ⟨D, 0, none⟩) 40 c] 39)).alloc (.cells #[.int .i64 0, .int .i64 0, .int .i64 0, .int .i64 0, .slice none 0 0] 39) = wA at *
  have hzl := heap_lt y1
  have y1 := k1.heap y1 (by simp)
  have y2 := k1.heap y2 (by simp)
  have kk := kk.then k1
  generalize hz : w.heap.size = z at *
  have c0 : w0.cell? ⟨z, 0, none⟩ = some (.int .i64 k) := cell_is y1 0 rfl
  have c1 : w0.cell? ⟨z, 1, none⟩ = some (.int .i64 h) := cell_is y1 1 rfl
  have c2' : w0.cell? ⟨z, 2, none⟩ = some (.int .i64 a) := cell_is y1 2 rfl
  have c3 : w0.cell? ⟨z, 3, none⟩ = some (.int .i64 l) := cell_is y1 3 rfl
  have c4 : w0.cell? ⟨z, 4, none⟩ = some (.slice (some ⟨D, 0, none⟩) 40 c) := cell_is y1 4 rfl
  have d0 : w0.cell? ⟨z + 1, 0, none⟩ = some (.int .i64 0) := cell_is y2 0 rfl
  have d1 : w0.cell? ⟨z + 1, 1, none⟩ = some (.int .i64 0) := cell_is y2 1 rfl
  have d2 : w0.cell? ⟨z + 1, 2, none⟩ = some (.int .i64 0) := cell_is y2 2 rfl
  have d3 : w0.cell? ⟨z + 1, 3, none⟩ = some (.int .i64 0) := cell_is y2 3 rfl
  have d4 : w0.cell? ⟨z + 1, 4, none⟩ = some (.slice none 0 0) := cell_is y2 4 rfl
  have e0 := unfrozen y2 0
  have e1 := unfrozen y2 1
  have e2 := unfrozen y2 2
  have e3 := unfrozen y2 3
  have e4 := unfrozen y2 4
  have q4 := unfrozen y1 4
  go_wp2_with fail
  have y2' := heap_set_ne y2 (show z + 1 ≠ z by omega) 4 (.slice (some ⟨g, 0, none⟩) 40 c2)
  have k4 := Chg.set w0 z 4 (.slice (some ⟨g, 0, none⟩) 40 c2)
  obtain ⟨y5, k5⟩ := set5 (.int .i64 k) (.int .i64 h) (.int .i64 a) (.int .i64 l) (.slice (some ⟨g, 0, none⟩) 40 c2) y2'
  have hfin := (kk.trans k4 (fun x hx hlt => by simp at hx; omega)).trans k5 (fun x hx hlt => by simp at hx; omega)
  have r0 := cell_is y5 0 rfl
  have r1 := cell_is y5 1 rfl
  have r2 := cell_is y5 2 rfl
  have r3 := cell_is y5 3 rfl
  have r4 := cell_is y5 4 rfl
  refine bodyPost_ret (v := .agg #[.int .i64 k, .int .i64 h, .int .i64 a, .int .i64 l, .slice (some ⟨g, 0, none⟩) 40 c2]) (by simp [results, Tryz.results23, go_sem, r0, r1, r2, r3, r4]) rfl ?_
  obtain ⟨cb, hcb⟩ := hbt
  have n1 : g ≠ z := heap_ne hcb y1 (by simp)
  have n2 : g ≠ z + 1 := heap_ne hcb y2 (by simp)
  have hb4 := (hbs.chgB k4 (by simpa using n1)).chgB k5 (by simpa using n2)
  exact ⟨g, c2, rfl, hfin, hb4, ⟨_, k5.heap (k4.heap hcb (by simpa using n1)) (by simpa using n2)⟩, by have := kk.size; omega⟩
set_option maxRecDepth 100000 in
set_option maxHeartbeats 1000000 in
theorem answer_data (w : World) {a b c d : Int} {ga gb ca cb : Nat} {bs : List UInt8} (ha : Bs w (some ⟨ga, 0, none⟩) bs) (hb : Bs w (some ⟨gb, 0, none⟩) bs) (hl : bs.length = 40) : Calls Tryz.prog 11 #[.agg #[.int .i64 a, .int .i64 b, .int .i64 c, .int .i64 d, .slice (some ⟨ga, 0, none⟩) 40 ca], .agg #[.int .i64 a, .int .i64 b, .int .i64 c, .int .i64 d, .slice (some ⟨gb, 0, none⟩) 40 cb]] w fun e w' => e = .returned (.bool true) ∧ Chg [] w w' := by
  have kk : Chg [] w ((w.alloc (.cells #[.int .i64 a, .int .i64 b, .int .i64 c, .int .i64 d, .slice (some ⟨ga, 0, none⟩) 40 ca] 39)).alloc (.cells #[.int .i64 a, .int .i64 b, .int .i64 c, .int .i64 d, .slice (some ⟨gb, 0, none⟩) 40 cb] 39)) := (Chg.alloc w _).then_alloc _
  obtain ⟨y1, y2⟩ := heap_new2 w (.cells #[.int .i64 a, .int .i64 b, .int .i64 c, .int .i64 d, .slice (some ⟨ga, 0, none⟩) 40 ca] 39) (.cells #[.int .i64 a, .int .i64 b, .int .i64 c, .int .i64 d, .slice (some ⟨gb, 0, none⟩) 40 cb] 39)
  have hz1 := heap_lt y1
  have HQ := Lib.hid kk
  have HS := Lib.hid (bytes_same _ (ca := ca) (cb := cb) (ha.chgB kk (by simp)) (hb.chgB kk (by simp)) hl)
  clear ha hb kk
  generalize hw0 : (w.alloc (.cells #[.int .i64 a, .int .i64 b, .int .i64 c, .int .i64 d, .slice (some ⟨ga, 0, none⟩) 40 ca] 39)).alloc (.cells #[.int .i64 a, .int .i64 b, .int .i64 c, .int .i64 d, .slice (some ⟨gb, 0, none⟩) 40 cb] 39) = w0 at *
  have c0 := cell_is y1 0 rfl
  have c1 := cell_is y1 1 rfl
  have c2 := cell_is y1 2 rfl
  have c3 := cell_is y1 3 rfl
  have c4 := cell_is y1 4 rfl
  have d0 := cell_is y2 0 rfl
  have d1 := cell_is y2 1 rfl
  have d2 := cell_is y2 2 rfl
  have d3 := cell_is y2 3 rfl
  have d4 := cell_is y2 4 rfl
  generalize hz : w.heap.size = z at *
  go_enter Tryz.func11, Tryz.ntmps11
  go_wp2_with fail
  refine HS.out.mono ?_
  rintro e w1 ⟨rfl, h1⟩
  go_wp2_with fail
  go_ret
  exact ⟨rfl, HQ.out.then h1⟩
end Go.Proofs.YtliicpedddcfiaaGreat
namespace Go.Proofs.YtliicpedddcfiaaGreat.C2
open Go.RowKit Go.Lib

set_option maxRecDepth 100000 in
set_option maxHeartbeats 8000000 in
theorem step_read (w : World) {K P0 lw g o m c na : Nat} {P : Array Value → World → Prop} {cs : Array Value} {kind oh oa ol ev x0 x1 x2 x3 : Int} {pp : Option Addr} {pn pc : Nat} {av : Value} {xa : List Value} {q : Bool} {l : List UInt8} (hl : l.length = 40) (hlw : lw ≤ w.heap.size) (hKl : lw ≤ K) (hP : ∀ cs, Cl lw (P cs))
    (hB : SchB w K cs) (h1 : cs[1]? = some (.pointer (some ⟨P0, 0, none⟩))) (h2 : cs[6]? = some (.slice (some ⟨g, o, none⟩) (m + 1) c)) (h35 : cs[35]? = some (.int .i64 ev)) (hev : 0 ≤ ev ∧ ev ≤ 1000000) (_hc : m + 1 ≤ c)
    (u0 : w.cell? ⟨g, o, none⟩ = some (.int .i64 kind)) (u1 : w.cell? ⟨g, o + 1, none⟩ = some (.int .i64 oh)) (u2 : w.cell? ⟨g, o + 2, none⟩ = some (.int .i64 oa)) (u3 : w.cell? ⟨g, o + 3, none⟩ = some (.int .i64 ol)) (u4 : w.cell? ⟨g, o + 4, none⟩ = some (.slice pp pn pc)) (hgK : g ≠ K)
    (HD : ∀ wx, Chg [K] w wx → SchB wx K (cs.setIfInBounds 35 (.int .i64 (ev + 1))) → Calls Tryz.prog 22 #[.pointer (some ⟨K, 0, none⟩), .pointer (some ⟨K, 6, none⟩), .agg #[.int .i64 kind, .int .i64 oh, .int .i64 oa, .int .i64 ol, .slice pp pn pc]] wx (DoRD wx K P x0 x1 x2 x3 l))
    (hQ : ∀ cs2 w2, P cs2 w2 → cs2[6]? = some (.slice (some ⟨g, o, none⟩) (m + 1) c) ∧ cs2[8]? = some av ∧ cs2[9]? = some (.bool q)) (hav : w.ownsRow lw 39 5 av na xa) (hna : na ≤ 900) :
    Calls Tryz.prog 10 #[.pointer (some ⟨K, 0, none⟩), .int .i64 2] w fun e w' => ∃ g2 c2', e = .returned (.tuple #[.agg #[.int .i64 x0, .int .i64 x1, .int .i64 x2, .int .i64 x3, .slice (some ⟨g2, 0, none⟩) 40 c2'], .int .i64 0]) ∧ Bs w' (some ⟨g2, 0, none⟩) l ∧ ∃ av' cs2 dv, P cs2 w' ∧
      SchB w' K (((cs2.setIfInBounds 6 (cutV g o m c)).setIfInBounds 9 (.bool false)).setIfInBounds 8 av') ∧ w'.ownsRow lw 39 5 av' (na + 1) (xa ++ [.int .i64 x0, .int .i64 x1, .int .i64 x2, .int .i64 x3, dv]) ∧ ∀ (x : Nat) (cs3 : Array Value), w.heap[x]? = some (.cells cs3 39 (0, 0)) → av.ownBlock ≠ some x → w'.heap[x]? = some (.cells cs3 39 (0, 0)) := by
  have k0 : Chg [] w (w.alloc (.cells #[.int .i64 0, .int .i64 0, .int .i64 0, .int .i64 0, .slice none 0 0] 39)) := Chg.alloc w _
  have y0 := heap_new w (.cells #[.int .i64 0, .int .i64 0, .int .i64 0, .int .i64 0, .slice none 0 0] 39)
  generalize hw0 : w.alloc (.cells #[.int .i64 0, .int .i64 0, .int .i64 0, .int .i64 0, .slice none 0 0] 39) = w0 at *
  generalize hz : w.heap.size = z at *
  have hKz : K < z := by rw [← hz]; exact heap_lt hB
  have hzl := heap_lt y0
  have B0 : SchB w0 K cs := k0.heap hB (by simp)
  have HCl : Hid (Calls Tryz.prog 19 #[.pointer (some ⟨K, 0, none⟩), .int .i64 2] w0 fun e w' => e = .returned (.pointer (some ⟨K, 6, none⟩)) ∧ w0 = w') := Lib.hid (client_in w0 B0 h1 ⟨by decide, by decide⟩)
  have c35 := cell_is B0 35 h35
  have f35 := unfrozen B0 35
  have n1 : IntKind.i64.wrap (ev + 1) = ev + 1 := by rw [IntKind.wrap_i64]; omega
  have hs35 : 35 < cs.size := (Array.getElem?_eq_some_iff.1 h35).1
  have HQ0 := Lib.hid (And.intro h2 (And.intro hQ hna))
  have HU := Lib.hid (And.intro u0 (And.intro u1 (And.intro u2 (And.intro u3 u4))))
  have HDo := Lib.hid HD
  have HZo := Lib.hid (show ∀ g', av.ownBlock = some g' → g' < z from fun g' hg' => by
    obtain ⟨-, cur, hh⟩ := own_elem hav hg'
    rw [← hz]
    exact heap_lt hh)
  have HB := Lib.hid (And.intro hB (And.intro k0 (And.intro y0 (And.intro B0 hav))))
  clear hB h1 h35 u0 u1 u2 u3 u4 HD hQ hav k0 y0 B0 h2
  go_enter Tryz.func10, Tryz.ntmps10
  go_wp2_with fail
  refine HCl.out.mono ?_
  rintro e w1 ⟨rfl, rfl⟩
  go_upto_region 5 with fail
  obtain ⟨hB, k0, y0, B0, hav⟩ := HB.out
  have B1 : SchB (w0.setCell ⟨K, 35, none⟩ (.int .i64 (ev + 1))) K (cs.setIfInBounds 35 (.int .i64 (ev + 1))) := heap_set B0 35 _ rfl
  have k1 : Chg [K] w0 (w0.setCell ⟨K, 35, none⟩ (.int .i64 (ev + 1))) := Chg.set _ _ _ _
  generalize w0.setCell ⟨K, 35, none⟩ (.int .i64 (ev + 1)) = w1 at *
  have k01 : Chg [K] w w1 := (k0.mono (fun x hx _ => by cases hx)).then k1
  have y1 := k1.heap y0 (by simp; omega)
  have c2 : w1.cell? ⟨K, 6, none⟩ = some (.slice (some ⟨g, o, none⟩) (m + 1) c) := cell_is B1 6 (by rw [Array.getElem?_setIfInBounds_ne (by decide)]; exact HQ0.out.1)
  have u0 := k01.cell HU.out.1 (by simpa using hgK)
  have u1 := k01.cell HU.out.2.1 (by simpa using hgK)
  have u2 := k01.cell HU.out.2.2.1 (by simpa using hgK)
  have u3 := k01.cell HU.out.2.2.2.1 (by simpa using hgK)
  have u4 := k01.cell HU.out.2.2.2.2 (by simpa using hgK)
  have n2 : decide (((m + 1 : Nat) : Int) = 0) = false := decide_eq_false (by omega)
  have n3 : decide ((m : Int) + 1 = 0) = false := decide_eq_false (by omega)
  have n4 : ¬ ((m : Int) + 1 = 0) := by omega
  have HD1 := Lib.hid (HDo.out w1 k01 B1)
  have HK0 := Lib.hid (show ∀ (x : Nat) (cs3 : Array Value), w.heap[x]? = some (.cells cs3 39 (0, 0)) → w1.heap[x]? = some (.cells cs3 39 (0, 0)) from fun x cs3 hx => k01.heap hx (by simpa using heap_ne hx hB (by simp)))
  have HX1 := Lib.hid (And.intro y1 (own_chgB hav k01 (fun g' hg' hm => by
    rw [List.mem_singleton] at hm
    subst hm
    obtain ⟨-, cur, hh⟩ := own_elem hav hg'
    rw [show w.heap[_]? = _ from hB] at hh
    cases hh)))
  clear hB k0 y0 B0 hav B1 k1 y1 c35 f35 n1 HB HDo HCl
  go_wp2_with fail
  refine HD1.out.mono ?_
  rintro e w2 ⟨gD, cD, rfl, hbs, hgl, ⟨cbD, hcb⟩, cs2, hp, hK2, h66⟩
  have HBS := Lib.hid (And.intro hbs hcb)
  clear hbs hcb hgl
  have hq2 := HQ0.out.2.1 cs2 w2 hp
  have HQ := Lib.hid (And.intro HQ0.out.1 (And.intro hq2.1 (And.intro hq2.2.1 (And.intro hq2.2.2 HQ0.out.2.2))))
  clear hq2
  have HX2 := Lib.hid (And.intro hp (And.intro hK2 (And.intro (h66 _ _ HX1.out.1) (own_k66 HX1.out.2 h66))))
  have H66 := Lib.hid (show ∀ (x : Nat) (cs3 : Array Value), w.heap[x]? = some (.cells cs3 39 (0, 0)) → w2.heap[x]? = some (.cells cs3 39 (0, 0)) from fun x cs3 hx => h66 _ _ (HK0.out x cs3 hx))
  have hs12 : z < w2.heap.size := by have := heap_lt (h66 _ _ HX1.out.1); exact this
  clear hp hK2 h66 c2 u0 u1 u2 u3 u4 n2 n3 n4
  go_upto_region 11 with fail
  obtain ⟨hp, hK2, y2, hav2⟩ := HX2.out
  have k3 : Chg [] w2 (w2.alloc (.cells #[.int .i64 x0, .int .i64 x1, .int .i64 x2, .int .i64 x3, .slice (some ⟨gD, 0, none⟩) 40 cD] 39)) := Chg.alloc w2 _
  have b3 := heap_new w2 (.cells #[.int .i64 x0, .int .i64 x1, .int .i64 x2, .int .i64 x3, .slice (some ⟨gD, 0, none⟩) 40 cD] 39)
  generalize w2.alloc (.cells #[.int .i64 x0, .int .i64 x1, .int .i64 x2, .int .i64 x3, .slice (some ⟨gD, 0, none⟩) 40 cD] 39) = w3 at *
  generalize hzb : w2.heap.size = zb at *
  have B3 : SchB w3 K cs2 := k3.heap hK2 (by simp)
  have y3 := k3.heap y2 (by simp)
  have hp3 := (hP cs2).box hp k3 (fun x hx => by cases hx) (fun x hx => by cases hx)
  have hav3 := own_keep hav2 k3.below0
  have H3 := Lib.hid (show ∀ (x : Nat) (cs3 : Array Value), w.heap[x]? = some (.cells cs3 39 (0, 0)) → w3.heap[x]? = some (.cells cs3 39 (0, 0)) from fun x cs3 hx => k3.heap (H66.out x cs3 hx) (by simp))
  have hKb : K < zb := by rw [← hzb]; exact heap_lt hK2
  have c2 := cell_is B3 6 HQ.out.2.1
  have c5 := cell_is B3 9 HQ.out.2.2.2.1
  have f2 := unfrozen B3 6
  have f5 := unfrozen B3 9
  have hbs3 := HBS.out.1.chgB k3 (by simp)
  have hcb3 := k3.heap HBS.out.2 (by simp)
  have HBS3 := Lib.hid (And.intro hbs3 hcb3)
  clear hbs3 hcb3 HBS
  clear hp hK2 y2 hav2 k3 HX2
  go_upto_region 12 with fail
  have hcut : cutV g o m c = .slice (if c = 1 then some ⟨g, o, none⟩ else some ⟨g, o + 5, none⟩) m (c - 1) := rfl
  generalize (if c = 1 then some (⟨g, o, none⟩ : Addr) else some ⟨g, o + 5, none⟩) = pq at *
  have HCut := Lib.hid hcut
  clear hcut
  have B4 : SchB ((w3.setCell ⟨K, 6, none⟩ (.slice pq m (c - 1))).setCell ⟨K, 9, none⟩ (.bool false)) K ((cs2.setIfInBounds 6 (.slice pq m (c - 1))).setIfInBounds 9 (.bool false)) := heap_set (heap_set B3 6 _ rfl) 9 _ rfl
  have k4 : Chg [K] w3 ((w3.setCell ⟨K, 6, none⟩ (.slice pq m (c - 1))).setCell ⟨K, 9, none⟩ (.bool false)) := (Chg.set _ _ _ _).then (Chg.set _ _ _ _)
  generalize (w3.setCell ⟨K, 6, none⟩ (.slice pq m (c - 1))).setCell ⟨K, 9, none⟩ (.bool false) = w4 at *
  have tpK : Tp w3 [K] [72, 39] := fun x hx => by
    rw [List.mem_singleton] at hx
    subst hx
    exact ⟨_, _, B3, by simp⟩
  have hp4 := (hP cs2).keep _ _ _ hp3 k4 tpK (fun x hx => by rw [List.mem_singleton] at hx; omega)
  have H4 := Lib.hid (show ∀ (x : Nat) (cs3 : Array Value), w.heap[x]? = some (.cells cs3 39 (0, 0)) → w4.heap[x]? = some (.cells cs3 39 (0, 0)) from fun x cs3 hx => k4.heap (H3.out x cs3 hx) (by simpa using heap_ne (H3.out x cs3 hx) B3 (by simp)))
  have y4 := k4.heap y3 (by simp; omega)
  have b4 := k4.heap b3 (by simp; omega)
  have hav4 := own_chgB hav3 k4 (fun g' hg' hm => by
    rw [List.mem_singleton] at hm
    subst hm
    obtain ⟨-, cur, hh⟩ := own_elem hav3 hg'
    rw [show w3.heap[_]? = _ from B3] at hh
    cases hh)
  have ngK : gD ∉ [K] := by
    intro hm
    rw [List.mem_singleton] at hm
    exact heap_ne HBS3.out.2 B3 (by simp) hm
  have HBS4 := Lib.hid (And.intro (HBS3.out.1.chgB k4 ngK) (k4.heap HBS3.out.2 ngK))
  clear ngK HBS3
  obtain ⟨pa, ca, rfl, hca⟩ := own_form hav4
  have e24 : (((cs2.setIfInBounds 6 (Value.slice pq m (c - 1))).setIfInBounds 9 (.bool false))[8]? = some (.slice pa na ca)) := by
    rw [Array.getElem?_setIfInBounds_ne (by decide), Array.getElem?_setIfInBounds_ne (by decide)]
    exact HQ.out.2.2.1
  have HB4 := Lib.hid (And.intro B4 (And.intro hp4 (And.intro y4 (And.intro b4 (And.intro hav4 e24)))))
  have s4 : w4.cell? ⟨K, 8, none⟩ = some (.slice pa na ca) := cell_is B4 8 e24
  have s4d : w4.drew.cell? ⟨K, 8, none⟩ = some (.slice pa na ca) := s4
  have d0 := cell_is b4 0 rfl
  have d1 := cell_is b4 1 rfl
  have d2 := cell_is b4 2 rfl
  have d3 := cell_is b4 3 rfl
  have d4 := cell_is b4 4 rfl
  have d0d : w4.drew.cell? ⟨zb, 0, none⟩ = some (.int .i64 x0) := d0
  have d1d : w4.drew.cell? ⟨zb, 1, none⟩ = some (.int .i64 x1) := d1
  have d2d : w4.drew.cell? ⟨zb, 2, none⟩ = some (.int .i64 x2) := d2
  have d3d : w4.drew.cell? ⟨zb, 3, none⟩ = some (.int .i64 x3) := d3
  have d4d : w4.drew.cell? ⟨zb, 4, none⟩ = some (.slice (some ⟨gD, 0, none⟩) 40 cD) := d4
  have kA : Chg [] w4 (w4.alloc (.cells #[.int .i64 x0, .int .i64 x1, .int .i64 x2, .int .i64 x3, .slice (some ⟨gD, 0, none⟩) 40 cD] 39)).drew := (Chg.alloc w4 _).drew
  have yA : (w4.alloc (.cells #[.int .i64 x0, .int .i64 x1, .int .i64 x2, .int .i64 x3, .slice (some ⟨gD, 0, none⟩) 40 cD] 39)).drew.heap[w4.heap.size]? = _ := heap_new w4 (.cells #[.int .i64 x0, .int .i64 x1, .int .i64 x2, .int .i64 x3, .slice (some ⟨gD, 0, none⟩) 40 cD] 39)
  have sA := kA.cell s4 (by simp)
  have BA := kA.heap B4 (by simp)
  have oA := own_keep hav4 kA.below0
  have hlA : lw ≤ (w4.alloc (.cells #[.int .i64 x0, .int .i64 x1, .int .i64 x2, .int .i64 x3, .slice (some ⟨gD, 0, none⟩) 40 cD] 39)).drew.heap.size := by have := kA.size; have := heap_lt y4; omega
  have hna := HQ.out.2.2.2.2
  clear B4 hp4 y4 b4 hav4 e24 k4 hp3 y3 b3 hav3 B3 c2 c5 f2 f5 tpK
  go_region_law
    (first
      | (refine step_append_ans rfl (.tmp 62) (.tmp 64) rfl lw w4.heap.size 1 na (.slice pa na ca) _ _ _ _ _ xa rfl oA hlA (by omega) rfl yA ⟨rfl, rfl, rfl, rfl, rfl⟩ ?_; intro g7 c7 w7 o7 k7 n7; have B7 : SchB w7 K _ := k7.heap BA (own_not oA BA (by decide)); have s8 := cell_is B7 8 HB4.out.2.2.2.2.2; have f8 := unfrozen B7 8))
  all_goals
    obtain ⟨B4, hp4, y4, b4, hav4, e24⟩ := HB4.out
    have B8 : SchB (w7.setCell ⟨K, 8, none⟩ (.slice (some ⟨g7, 0, none⟩) (na + 1) c7)) K (((cs2.setIfInBounds 6 (.slice pq m (c - 1))).setIfInBounds 9 (.bool false)).setIfInBounds 8 (.slice (some ⟨g7, 0, none⟩) (na + 1) c7)) := heap_set B7 8 _ rfl
    have ks8 : Chg [K] w7 (w7.setCell ⟨K, 8, none⟩ (.slice (some ⟨g7, 0, none⟩) (na + 1) c7)) := Chg.set _ _ _ _
    generalize w7.setCell ⟨K, 8, none⟩ (.slice (some ⟨g7, 0, none⟩) (na + 1) c7) = w8 at *
    have o8 := own_chgB o7 ks8 (fun g' hg' hm => by
      rw [List.mem_singleton] at hm
      subst hm
      obtain ⟨-, cur, hh⟩ := own_elem o7 hg'
      rw [show w7.heap[_]? = _ from B7] at hh
      cases hh)
    have k48 : Chg (K :: (Value.slice pa na ca).ownBlock.toList) w4 w8 := ((kA.mono (fun x hx _ => by cases hx)).then (k7.mono (fun x hx _ => List.mem_cons_of_mem _ hx))).then (ks8.mono (fun x hx _ => by simp at hx; simp [hx]))
    have tp4 : Tp w4 (K :: (Value.slice pa na ca).ownBlock.toList) [72, 39] := fun x hx => by
      rcases List.mem_cons.1 hx with rfl | hx
      · exact ⟨_, _, B4, by simp⟩
      · obtain ⟨-, cur, hh⟩ := own_elem hav4 (show (Value.slice pa na ca).ownBlock = some x by simpa using hx)
        exact ⟨_, _, hh, by simp⟩
    have hp8 := (hP cs2).keep _ _ _ hp4 k48 tp4 (fun x hx => by
      rcases List.mem_cons.1 hx with rfl | hx
      · exact hKl
      · exact (own_elem hav4 (show (Value.slice pa na ca).ownBlock = some x by simpa using hx)).1)
    have ngD : gD ∉ K :: (Value.slice pa na ca).ownBlock.toList := by
      intro hm
      obtain ⟨cs', t', h1, h2⟩ := tp4 gD hm
      rw [HBS4.out.2] at h1
      cases h1
      simp at h2
    have HB8 := Lib.hid (HBS4.out.1.chgB k48 ngD)
    clear ngD
    have nin : ∀ x, K < x → z ≤ x → x ∉ K :: (Value.slice pa na ca).ownBlock.toList := fun x h1 h2 hx => by
      rcases List.mem_cons.1 hx with e | hx
      · omega
      · have := HZo.out x (by simpa using hx)
        omega
    have y8 := k48.heap y4 (nin z hKz (Nat.le_refl _))
    have b8 := k48.heap b4 (nin zb hKb (by omega))
    have H8 := Lib.hid (show ∀ (x : Nat) (cs3 : Array Value), w.heap[x]? = some (.cells cs3 39 (0, 0)) → (Value.slice pa na ca).ownBlock ≠ some x → w8.heap[x]? = some (.cells cs3 39 (0, 0)) from fun x cs3 hx hne => k48.heap (H4.out x cs3 hx) (fun hm => by
      rcases List.mem_cons.1 hm with e | hm
      · exact heap_ne (H4.out x cs3 hx) B4 (by simp) e
      · exact hne (by simpa using hm)))
    have hsz8 := k48.size
    have hg7z : g7 ≠ z := by
      rcases n7 with h | h
      · have := HZo.out g7 h
        omega
      · have h1 := heap_lt y4
        have h2 := kA.size
        have h' : g7 = (w4.alloc (.cells #[.int .i64 x0, .int .i64 x1, .int .i64 x2, .int .i64 x3, .slice (some ⟨gD, 0, none⟩) 40 cD] 39)).drew.heap.size := h
        omega
    clear B4 hp4 y4 b4 hav4 e24 HB4 o7 k7 n7 B7 s8 f8 kA yA sA BA oA hlA s4 s4d d0 d1 d2 d3 d4 d0d d1d d2d d3d d4d k48 tp4 ks8
    have d0 := cell_is b8 0 rfl
    have d1 := cell_is b8 1 rfl
    have d2 := cell_is b8 2 rfl
    have d3 := cell_is b8 3 rfl
    have d4 := cell_is b8 4 rfl
    have HK8 := Lib.hid (And.intro B8 (And.intro hp8 o8))
    clear B8 hp8 o8
    go_wp2_with fail
    refine (kept_data w8 HB8.out hl).mono ?_
    rintro e w9 ⟨g2, c2', rfl, k9, hb9, hbt9, hg9⟩
    have hzw8 : z < w8.heap.size := heap_lt y8
    have y9 := k9.heap y8 (by simp)
    have t0 := cell_is y9 0 rfl
    have t1 := cell_is y9 1 rfl
    have t2 := cell_is y9 2 rfl
    have t3 := cell_is y9 3 rfl
    have t4 := cell_is y9 4 rfl
    have e0 := unfrozen y9 0
    have e1 := unfrozen y9 1
    have e2 := unfrozen y9 2
    have e3 := unfrozen y9 3
    have e4 := unfrozen y9 4
    go_wp2_with fail
    obtain ⟨y11, k11⟩ := set5 (.int .i64 x0) (.int .i64 x1) (.int .i64 x2) (.int .i64 x3) (.slice (some ⟨g2, 0, none⟩) 40 c2') y9
    generalize ((((w9.setCell ⟨z, 0, none⟩ (.int .i64 x0)).setCell ⟨z, 1, none⟩ (.int .i64 x1)).setCell ⟨z, 2, none⟩ (.int .i64 x2)).setCell ⟨z, 3, none⟩ (.int .i64 x3)).setCell ⟨z, 4, none⟩ (.slice (some ⟨g2, 0, none⟩) 40 c2') = w10 at *
    have r0 := cell_is y11 0 rfl
    have r1 := cell_is y11 1 rfl
    have r2 := cell_is y11 2 rfl
    have r3 := cell_is y11 3 rfl
    have r4 := cell_is y11 4 rfl
    obtain ⟨B8, hp8, o8⟩ := HK8.out
    have kf : Chg [z] w8 w10 := (k9.mono (fun x hx _ => by cases hx)).then k11
    have tp8 : Tp w8 [z] [39] := fun x hx => by
      rw [List.mem_singleton] at hx
      subst hx
      exact ⟨_, _, y8, by simp⟩
    refine bodyPost_ret (v := .tuple #[.agg #[.int .i64 x0, .int .i64 x1, .int .i64 x2, .int .i64 x3, .slice (some ⟨g2, 0, none⟩) 40 c2'], .int .i64 0]) (by simp [results, Tryz.results10, go_sem, r0, r1, r2, r3, r4]) rfl ?_
    have hb10 := hb9.chgB k11 (by intro hm; rw [List.mem_singleton] at hm; omega)
    refine ⟨g2, c2', rfl, hb10, _, cs2, _, (hP cs2).box hp8 kf tp8 (fun x hx => by rw [List.mem_singleton] at hx; omega), (by rw [HCut.out]; exact kf.heap B8 (by intro hm; rw [List.mem_singleton] at hm; omega)), own_chgB o8 kf (fun g' hg' hm => ?_), fun x cs3 hx hne => kf.heap (H8.out x cs3 hx hne) (by have := heap_lt hx; simp; omega)⟩
    rw [List.mem_singleton] at hm
    cases hg'
    exact hg7z hm
end Go.Proofs.YtliicpedddcfiaaGreat.C2
