/- Lemmas and walks: Walks: what the document fixes of the shell (awake). Walks: a script of too many bytes or lines. Law ShellLong: a script of too many lines or bytes is refused. -/
import Derived.Test.YtgagcbgbjkjghaaGreatDoorXm
namespace Go.Proofs.YtgagcbgbjkjghaaGreatDoor
open Go.RowKit Go.Lib

section
variable {w0 : World} {lw K : Nat} {d : Ids} {ops : Int}
/-- the first script, line by line. -/
def IA (w0 : World) (lw K : Nat) (d : Ids) (ops : Int) (r : List UInt8) (x : World) : Prop :=
  (r = tA0 ∧ StA w0 w0.heap.size lw w0.heap.size K d ops (.slice none 0 0) [] [] x) ∨ (r = tA1 ∧ ∃ ov, StA w0 w0.heap.size lw w0.heap.size K d ops ov okT [oA1] x) ∨
  (r = tA2 ∧ ∃ ov, StA w0 w0.heap.size lw w0.heap.size K d ops ov (okT ++ okT) [oA1, oA2] x) ∨ (r = tA3 ∧ RunP w0 lw K d ops 0 x) ∨ (r = [] ∧ EndA w0 lw K x)
theorem okO : ∀ s ∈ [oA1, oA2, oA3], OpO s := fun s hs b l h => by
  simp at hs
  rcases hs with rfl | rfl | rfl
  · cases h
  · cases h
    exact noA
  · cases h
theorem okO2 : ∀ s ∈ [oA1, oA2], OpO s := fun s hs => okO s (by simp at hs ⊢; rcases hs with h | h <;> simp [h])
theorem okO1 : ∀ s ∈ [oA1], OpO s := fun s hs => okO s (by simp at hs ⊢; simp [hs])
theorem lineR_true {S K lo : Nat} {I : List UInt8 → World → Prop} {rest : List UInt8} {e : Ending} {w' : World} (h : e = .returned (.bool true)) (hI : I rest w') : LineR S K lo I rest e w' := ⟨true, h, fun _ => hI, fun h => by cases h⟩
theorem scriptA (hG : Scr.Gl w0) (hKl : lw ≤ K) : Script w0 w0.heap.size K lw finA (IA w0 lw K d ops) where
  keep := by
    intro r a b h k
    rcases h with ⟨rfl, h⟩ | ⟨rfl, ov, h⟩ | ⟨rfl, ov, h⟩ | ⟨rfl, ov, h⟩ | ⟨rfl, ov, h1, h2⟩
    · exact Or.inl ⟨rfl, h.keep k⟩
    · exact Or.inr (Or.inl ⟨rfl, ov, h.keep k⟩)
    · exact Or.inr (Or.inr (Or.inl ⟨rfl, ov, h.keep k⟩))
    · exact Or.inr (Or.inr (Or.inr (Or.inl ⟨rfl, ov, h.keep k⟩)))
    · exact Or.inr (Or.inr (Or.inr (Or.inr ⟨rfl, ov, ⟨k.heap h1.1 (by simp), own_keep h1.2 k.below0⟩, h2.then k⟩)))
  gl := by
    intro r a h
    rcases h with ⟨rfl, h⟩ | ⟨rfl, ov, h⟩ | ⟨rfl, ov, h⟩ | ⟨rfl, ov, h⟩ | ⟨rfl, ov, h1, h2⟩
    · exact h.gl hG
    · exact h.gl hG
    · exact h.gl hG
    · exact h.gl hG
    · exact hG.keep h2.below0
  last := by
    intro x h
    rcases h with ⟨e, -⟩ | ⟨e, -⟩ | ⟨e, -⟩ | ⟨e, -⟩ | ⟨-, ov, h1, h2⟩
    · cases e
    · cases e
    · cases e
    · cases e
    · exact ⟨ov, h1, h2⟩
  line := by
    intro r x h hr
    rcases h with ⟨rfl, h⟩ | ⟨rfl, ov, h⟩ | ⟨rfl, ov, h⟩ | ⟨rfl, h⟩ | ⟨rfl, -⟩
    · refine ⟨by decide, _, _, _, _, cutA0, by decide, by decide, ?_⟩
      refine (line_op x (b := true) (Q := fun w' => IA w0 lw K d ops tA1 w') preA0 trimA0 ((op_add h hG (o := oA1) (by decide) cutB0 num1 (by decide) (by decide) parseB0 (by decide) (fun _ => by decide) okO1 (by decide) (by decide) (r0 := [107]) rfl (fun _ => rfl)).mono ?_)).mono ?_
      · rintro e w' ⟨rfl, ov', h'⟩
        exact ⟨rfl, Or.inr (Or.inl ⟨rfl, ov', h'⟩)⟩
      · rintro e w' ⟨h1, h2⟩
        exact lineR_true h1 h2
    · refine ⟨by decide, _, _, _, _, cutA1, by decide, by decide, ?_⟩
      refine (line_op x (b := true) (Q := fun w' => IA w0 lw K d ops tA2 w') preA1 trimA1 ((op_add h hG (o := oA2) (by decide) cutB1 num1 (by decide) (by decide) parseB1 (by decide) (fun h => by cases h) okO2 (by decide) (by decide) (r0 := (okT ++ [111, 107]).tail) rfl (fun h => by cases h)).mono ?_)).mono ?_
      · rintro e w' ⟨rfl, ov', h'⟩
        exact ⟨rfl, Or.inr (Or.inr (Or.inl ⟨rfl, ov', h'⟩))⟩
      · rintro e w' ⟨h1, h2⟩
        exact lineR_true h1 h2
    · refine ⟨by decide, _, _, _, _, cutA2, by decide, by decide, ?_⟩
      refine (line_op x (b := true) (Q := fun w' => IA w0 lw K d ops tA3 w') preA2 trimA2 ((op_add h hG (o := oA3) (by decide) cutB2 num1 (by decide) (by decide) parseB2 (by decide) (fun _ => by decide) okO (by decide) (by decide) (r0 := (okT ++ okT ++ [111, 107]).tail) rfl (fun h => by cases h)).mono ?_)).mono ?_
      · rintro e w' ⟨rfl, ov', h'⟩
        exact ⟨rfl, Or.inr (Or.inr (Or.inr (Or.inl ⟨rfl, ov', h'⟩)))⟩
      · rintro e w' ⟨h1, h2⟩
        exact lineR_true h1 h2
    · refine ⟨by decide, _, _, _, _, cutA3, by decide, by decide, ?_⟩
      have hgl : Scr.Gl x := by
        obtain ⟨ov, h1⟩ := h
        exact h1.gl hG
      refine (line_one x (b := true) (Q := fun w' => IA w0 lw K d ops [] w') hgl (by decide) preA3 wordsA3 (by decide) num1 (by decide) (by decide) (fun wx kx => ?_)).mono ?_
      · have h0 : RunP w0 lw K d ops 0 wx := by
          obtain ⟨ov, h1⟩ := h
          exact ⟨ov, h1.keep kx⟩
        refine (run_any wx (m := 2) (P := RunP w0 lw K d ops) (Q := EndA w0 lw K) ⟨by decide, by decide⟩ (by decide) h0 (fun i wy hi hp => ?_) (fun wy hp => run2 hG hKl hp)).mono ?_
        · match i, hi with
          | 0, _ => exact run0 hG hp
          | 1, _ => exact run1 hG hKl hp
        · rintro e w' ⟨rfl, hq⟩
          exact ⟨rfl, Or.inr (Or.inr (Or.inr (Or.inr ⟨rfl, hq⟩)))⟩
      · rintro e w' ⟨h1, h2⟩
        exact lineR_true h1 h2
    · exact absurd rfl hr
/-- a line that is none. -/
def IX (w0 : World) (lw K : Nat) (d : Ids) (ops : Int) (r : List UInt8) (x : World) : Prop :=
  (r = [120] ∧ StA w0 w0.heap.size lw w0.heap.size K d ops (.slice none 0 0) [] [] x) ∨ (r = [] ∧ ∃ ov, Sh x w0.heap.size K lw ov (errW ++ [10]) ∧ Chg [] w0 x)
theorem StA.errK {w : World} {I : List UInt8 → World → Prop} {rest : List UInt8} (h : StA w0 w0.heap.size lw w0.heap.size K d ops (.slice none 0 0) [] [] w) (hI : ∀ w2 ov, Sh w2 w0.heap.size K lw ov (errW ++ [10]) → Up w0.heap.size w0 w2 → Qt w2 K d.N d.P → lw ≤ w2.heap.size → I rest w2) : ErrK w0.heap.size K lw I rest w :=
  ⟨_, [], 101, [114, 114, 111, 114, 32, 49], h.sh, by decide, h.lws, rfl, fun _ => rfl, fun w2 ov' hs hsh => hI w2 ov' hsh (Up.say h.up hs (Nat.le_refl _) h.lul) (h.qt.say hs h.sh.1) (by
    obtain ⟨U, k, -⟩ := hs
    exact Nat.le_trans h.lws k.size)⟩
theorem scriptX (hG : Scr.Gl w0) : Script w0 w0.heap.size K lw (errW ++ [10]) (IX w0 lw K d ops) where
  keep := by
    intro r a b h k
    rcases h with ⟨rfl, h⟩ | ⟨rfl, ov, h1, h2⟩
    · exact Or.inl ⟨rfl, h.keep k⟩
    · exact Or.inr ⟨rfl, ov, ⟨k.heap h1.1 (by simp), own_keep h1.2 k.below0⟩, h2.then k⟩
  gl := by
    intro r a h
    rcases h with ⟨rfl, h⟩ | ⟨rfl, ov, h1, h2⟩
    · exact h.gl hG
    · exact hG.keep h2.below0
  last := by
    intro x h
    rcases h with ⟨e, -⟩ | ⟨-, ov, h1, h2⟩
    · cases e
    · exact ⟨ov, h1, h2⟩
  line := by
    intro r x h hr
    rcases h with ⟨rfl, h⟩ | ⟨rfl, -⟩
    · refine ⟨by decide, _, _, _, _, cutX, by decide, by decide, ?_⟩
      refine (line_bare x (b := false) (Q := fun w' => ErrK w0.heap.size K lw (IX w0 lw K d ops) [] w') (h.gl hG) (by decide) preX wordsX (by decide) (by decide) (fun wx kx => (bare_x wx).mono ?_)).mono ?_
      · rintro e w' ⟨rfl, rfl⟩
        exact ⟨rfl, (h.keep kx).errK (fun w2 ov h1 h2 _ _ => Or.inr ⟨rfl, ov, h1, h2.chg⟩)⟩
      · rintro e w' ⟨h1, h2⟩
        exact ⟨false, h1, fun h => (by cases h), fun _ => h2⟩
    · exact absurd rfl hr
end
theorem playA (w : World) (hG : Scr.Gl w) : Calls Tryz.prog 9 #[.string ⟨tA0.toArray⟩] w fun e w' => e = .returned (.string ⟨finA.toArray⟩) ∧ Chg [] w w' :=
  play_any w hG (by decide) (by decide) linesA (fun lw K d ops w1 h _ => ⟨IA w lw K d ops, Or.inl ⟨rfl, h⟩, scriptA hG h.lwK⟩)
theorem playX (w : World) (hG : Scr.Gl w) : Calls Tryz.prog 9 #[.string ⟨#[120]⟩] w fun e w' => e = .returned (.string ⟨(errW ++ [10]).toArray⟩) ∧ Chg [] w w' :=
  play_any w (text := [120]) hG (by decide) (by decide) (by decide) (fun lw K d ops w1 h _ => ⟨IX w lw K d ops, Or.inl ⟨rfl, h⟩, scriptX hG⟩)
set_option maxRecDepth 100000 in
theorem awake30 (w : World) (hG : Scr.Gl w) : Calls Tryz.prog 8 #[] w fun e w' => e = .returned (.bool true) ∧ Chg [] w w' := by
  have HA := Lib.hid (playA w hG)
  have HG := Lib.hid hG
  clear hG
  go_enter Tryz.func8, Tryz.ntmps8
  go_wp2_with fail
  refine HA.out.mono ?_
  rintro e w1 ⟨rfl, k1⟩
  have HX := Lib.hid (playX w1 (HG.out.keep k1.below0))
  have HK := Lib.hid k1
  clear k1
  go_wp2_with fail
  refine HX.out.mono ?_
  rintro e w2 ⟨rfl, k2⟩
  have HK2 := Lib.hid (HK.out.then k2)
  clear k2
  go_wp2_with fail
  go_ret
  exact ⟨rfl, HK2.out⟩
end Go.Proofs.YtgagcbgbjkjghaaGreatDoor
namespace Go.Proofs.YtgagcbgbjkjghaaGreatDoor
open Go.RowKit Go.Lib

/-- the answer to a script that is too large. -/
def bigT : ByteArray := ⟨#[101, 114, 114, 111, 114, 32, 55, 10]⟩
set_option maxRecDepth 100000 in
set_option maxHeartbeats 4000000 in
theorem play_long (w : World) {text : List UInt8} (hG : Scr.Gl w) (hne : text ≠ []) (hlen : text.length ≤ 1000000) (hbig : 262144 < text.length ∨ 10000 < linesN text) :
    Calls Tryz.prog 9 #[.string ⟨text.toArray⟩] w fun e w' => e = .returned (.string bigT) ∧ Chg [] w w' := by
  have HI := Lib.hid (And.intro hG (And.intro hlen hbig))
  have hCnt := Lib.hid (fun wx => Tryz.strings_Count_one ⟨text.toArray⟩ 10 wx)
  obtain ⟨t0, z, rfl⟩ : ∃ t0 z, text = t0 ++ [z] := ⟨text.dropLast, text.getLast hne, (List.dropLast_concat_getLast hne).symm⟩
  have hlc : (t0 ++ [z]).length = t0.length + 1 := by simp
  clear hG hlen hbig hne
  go_enter Tryz.func9, Tryz.ntmps9
  go_wp2_with fail
  go_step3
  go_wp2_with fail
  have k0 : Chg [] w (w.alloc (.cells #[.pointer none, .slice none 0 0] 37)) := Chg.alloc w _
  have y0 := heap_new w (.cells #[.pointer none, .slice none 0 0] 37)
  have hsz0 : (w.alloc (.cells #[.pointer none, .slice none 0 0] 37)).heap.size = w.heap.size + 1 := by simp
  generalize w.alloc (.cells #[.pointer none, .slice none 0 0] 37) = w1 at *
  refine (snew_any w1).mono ?_
  rintro e w2 ⟨K, d, ops, rfl, k2, lK, hS, hops, hB⟩
  have y2 := k2.heap y0 (by simp)
  have s0 := cell_is y2 0 rfl
  have f0 := unfrozen y2 0
  have kS : Chg [w.heap.size] w2 (w2.setCell ⟨w.heap.size, 0, none⟩ (.pointer (some ⟨K, 0, none⟩))) := Chg.set _ _ _ _
  have HK := Lib.hid ((k0.then k2).trans kS (fun x hx hl => by rw [List.mem_singleton] at hx; omega))
  clear k0 y0 k2 lK hS hops hB y2 hsz0 kS
  by_cases hlb : 262144 < t0.length + 1
  · have n1 : decide ((262144 : Int) < ((t0.length : Int) + 1)) = true := decide_eq_true (by omega)
    go_wp2_with fail
    rw [Exit.noGoto_ret]
    go_ret
    exact ⟨rfl, HK.out⟩
  have n1 : decide ((262144 : Int) < ((t0.length : Int) + 1)) = false := decide_eq_false (by omega)
  go_wp2_with fail
  generalize w2.setCell ⟨w.heap.size, 0, none⟩ (.pointer (some ⟨K, 0, none⟩)) = w3 at *
  clear s0 f0
  refine (hCnt.out w3).mono ?_
  rintro e w4 ⟨rfl, rfl⟩
  obtain ⟨cn, hcn⟩ : ∃ cn, cn = Lib.countByte (t0 ++ [z]) 10 := ⟨_, rfl⟩
  rw [← hcn]
  have hln : linesN (t0 ++ [z]) = cn + (if z = 10 then 0 else 1) := by
    unfold linesN
    rw [← hcn]
    simp
  have hcl : cn ≤ 1000000 := by
    rw [hcn]
    unfold Lib.countByte
    exact Nat.le_trans List.count_le_length HI.out.2.1
  have hbig : 10000 < cn + (if z = 10 then 0 else 1) := by
    rw [← hln]
    rcases HI.out.2.2 with h | h
    · rw [hlc] at h
      omega
    · exact h
  have HCn := Lib.hid (And.intro hcl hbig)
  clear hcn hln hcl hbig
  have hbl : t0.length + 1 ≤ 1000000 := by have := HI.out.2.1; rw [hlc] at this; exact this
  have hw : wrap64 (t0.length : Int) = (t0.length : Int) := by unfold wrap64; omega
  have hix : (⟨(t0 ++ [z]).toArray⟩ : ByteArray)[t0.length]'(by show t0.length < (t0 ++ [z]).toArray.size; simp) = z := by
    show (t0 ++ [z]).toArray[t0.length]'_ = z
    simp
  have hne : ((t0 ++ [z]).isEmpty) = false := by simp
  have hnb : ∃ u : Bool, (((z.toNat : Nat) : Int) != 10) = u ∧ (u = true ↔ z ≠ 10) := ⟨_, rfl, by
    rw [bne_iff_ne]
    constructor
    · intro h e
      subst e
      exact h rfl
    · intro h e
      exact h (UInt8.toNat.inj (by have : z.toNat = 10 := by omega
                                   rw [this]; rfl))⟩
  obtain ⟨u, hu, hu2⟩ := hnb
  have HU := Lib.hid hu2
  clear hu2
  cases u with
  | false =>
    have hz : z = 10 := by
      have h1 := HU.out
      by_cases h : z = 10
      · exact h
      · exact absurd (h1.2 h) (by decide)
    have n2 : decide ((10000 : Int) < (cn : Int)) = true := decide_eq_true (by have h1 := HCn.out.2; rw [if_pos hz] at h1; omega)
    clear hz
    go_wp2_with fail
    rw [Exit.noGoto_ret]
    go_ret
    exact ⟨rfl, HK.out⟩
  | true =>
    have hw2 : wrap64 ((cn : Int) + 1) = (cn : Int) + 1 := by unfold wrap64; have h1 := HCn.out.1; omega
    have n2 : decide ((10000 : Int) < (cn : Int) + 1) = true := decide_eq_true (by have h1 := HCn.out.2; rw [if_neg (HU.out.1 rfl)] at h1; omega)
    go_wp2_with fail
    rw [Exit.noGoto_ret]
    go_ret
    exact ⟨rfl, HK.out⟩
end Go.Proofs.YtgagcbgbjkjghaaGreatDoor
namespace Go.Proofs.YtgagcbgbjkjghaaGreatDoor
open Go.RowKit Go.Lib

set_option maxRecDepth 100000 in
set_option maxHeartbeats 8000000 in
theorem law3_any (p : List UInt8) (n : Int) (w : World) (hG : Scr.Gl w) : Calls Tryz.prog 3 #[.string ⟨p.toArray⟩, .int .i64 n] w fun e w' => e = .returned (.bool true) ∧ Chg [] w w' := by
  have HG := Lib.hid hG
  have HAw := Lib.hid (awake30 w hG)
  clear hG
  by_cases hp : p = []
  · subst hp
    go_enter Tryz.func3, Tryz.ntmps3
    go_wp2_with fail
    refine HAw.out.mono ?_
    rintro e w1 ⟨rfl, k1⟩
    have HK := Lib.hid k1
    clear k1
    go_wp2_with fail
    go_ret
    exact ⟨rfl, HK.out⟩
  have hpe : p.isEmpty = false := by cases p <;> simp at hp ⊢
  by_cases hp2 : 200 < p.length
  · have n1 : decide ((200 : Int) < (p.length : Int)) = true := decide_eq_true (by omega)
    go_enter Tryz.func3, Tryz.ntmps3
    go_wp2_with fail
    refine HAw.out.mono ?_
    rintro e w1 ⟨rfl, k1⟩
    have HK := Lib.hid k1
    clear k1
    go_wp2_with fail
    go_ret
    exact ⟨rfl, HK.out⟩
  have n1 : decide ((200 : Int) < (p.length : Int)) = false := decide_eq_false (by omega)
  by_cases hn0 : n < 0
  · have n2 : decide (n < 0) = true := decide_eq_true hn0
    go_enter Tryz.func3, Tryz.ntmps3
    go_wp2_with fail
    refine HAw.out.mono ?_
    rintro e w1 ⟨rfl, k1⟩
    have HK := Lib.hid k1
    clear k1
    go_wp2_with fail
    go_ret
    exact ⟨rfl, HK.out⟩
  have n2 : decide (n < 0) = false := decide_eq_false hn0
  by_cases hn1 : 300000 < n
  · have n3 : decide ((300000 : Int) < n) = true := decide_eq_true hn1
    go_enter Tryz.func3, Tryz.ntmps3
    go_wp2_with fail
    refine HAw.out.mono ?_
    rintro e w1 ⟨rfl, k1⟩
    have HK := Lib.hid k1
    clear k1
    go_wp2_with fail
    go_ret
    exact ⟨rfl, HK.out⟩
  have n3 : decide ((300000 : Int) < n) = false := decide_eq_false hn1
  have HP := Lib.hid (And.intro hp (And.intro hp2 (And.intro hn0 hn1)))
  clear hp
  go_enter Tryz.func3, Tryz.ntmps3
  go_wp2_with fail
  generalize hbase : w.heap.size = base at *
  have HB := Lib.hid hbase
  clear hbase n1 n2 n3 hpe hn0 hn1 hp2
  go_loopw [5] (fun v wr => ∃ b : List UInt8, wr.ownsRow base 5 1 v b.length (Lib.byteCells b) ∧ Chg [] w wr ∧ (b.length : Int) ≤ 300200) (fun v _ => (n - intOf (match v with | .slice _ m _ => .int .i64 (m : Int) | _ => .int .i64 0)).toNat)
  case atStart => exact ⟨[], World.ownsRow_nil _ _ _ _, Chg.refl _ _, by decide⟩
  case round =>
    obtain ⟨b, ho, k, hb⟩ := hrel
    obtain ⟨pv, cv, rfl, hcv⟩ := own_form ho
    by_cases hlt : (b.length : Int) < n
    · have n4 : decide ((b.length : Int) < n) = true := decide_eq_true hlt
      have hbs : base ≤ wr.heap.size := by have h1 := k.size; have h2 := HB.out; omega
      have hpl : p.length ≤ 200 ∧ 0 < p.length := by
        have h1 := HP.out
        refine ⟨by omega, List.length_pos_iff.2 h1.1⟩
      have hn3 : n ≤ 300000 := by have h1 := HP.out; omega
      obtain ⟨v2, w2, hr2, o2, k2⟩ := append_str_run wr 23 base _ b p ho (by omega) hbs
      obtain ⟨p2, c2, rfl, hc2⟩ := own_form o2
      have kf : Chg [] w w2 := k.trans k2 (fun x hx hl => by
        have h1 : (Value.slice pv b.length cv).ownBlock = some x := by simpa using hx
        have h2 := (own_elem ho h1).1
        have h3 := HB.out
        omega)
      have HR := Lib.hid (And.intro o2 (And.intro kf (And.intro hpl hn3)))
      clear hbs hpl hn3 o2 k2 kf ho k hcv hc2
      go_wp2_with (first | (at_builtin; refine Lib.wpList_append_run _ rfl (.tmp 28) (.tmp 29) 23 9 rfl _ _ rfl rfl _ _ hr2 ?_))
      go_roundw
      case rel => exact ⟨b ++ p, by rw [List.length_append]; exact HR.out.1, HR.out.2.1, by have h1 := HR.out.2.2; rw [List.length_append]; push_cast; omega⟩
      case measure =>
        have h1 := HR.out.2.2
        simp [intOf]
        omega
    · have n4 : decide ((b.length : Int) < n) = false := decide_eq_false hlt
      have hw0 : ∀ j, (h : j < b.length) → ∃ g, pv = some ⟨g, 0, none⟩ ∧ wr.cell? ⟨g, j, none⟩ = some (.int .u8 b[j].toNat) := by
        intro j hj
        obtain ⟨g, c', e⟩ := own_some ho (by omega)
        cases e
        refine ⟨g, rfl, ?_⟩
        have h5 := ho.cells (g := g) rfl j (.int .u8 b[j].toNat) (by simp [Lib.byteCells, hj])
        rw [show (⟨g, 0, none⟩ : Addr).add j = ⟨g, 0 + j, none⟩ from by unfold Addr.add; split <;> simp_all, Nat.zero_add] at h5
        exact h5
      have HR := Lib.hid (And.intro ho (And.intro k hb))
      have HC := Lib.hid hw0
      have hcv2 := own_convert (src := 23) (dst := 9) (e := 5) ty23b ty5b ty9b ho
      have hbb : b.length ≤ 300200 := by omega
      clear ho k hcv hw0
      go_wp2_with fail
      go_loopw [6, 7] (fun kv i wx => wx = wr ∧ ∃ j : Nat, i = .int .i64 (j : Int) ∧ j ≤ b.length ∧ kv = .int .i64 (kAt b j : Int)) (fun _ i _ => b.length - (intOf i).toNat)
      case atStart => exact ⟨rfl, 0, rfl, Nat.zero_le _, rfl⟩
      case round =>
        obtain ⟨rfl, j, rfl, hj, rfl⟩ := hrel
        by_cases hlt2 : j < b.length
        · have n5 : decide ((j : Int) < (b.length : Int)) = true := decide_eq_true (by omega)
          obtain ⟨g, rfl, a0⟩ := HC.out j hlt2
          have hka : kAt b j ≤ 400000 := Nat.le_trans (kAt_le b j) (by omega)
          have n6 : wrap64 ((j : Int) + 1) = ((j + 1 : Nat) : Int) := by unfold wrap64; omega
          have n7 : wrap64 ((b.length : Int) - 1) = (b.length : Int) - 1 := by unfold wrap64; omega
          have n8 : wrap64 ((kAt b j : Int) + 1) = ((kAt b j + 1 : Nat) : Int) := by unfold wrap64; omega
          by_cases hz : b[j] = 10
          · have hb10 : ((b[j].toNat : Int) == 10) = true := by rw [hz]; rfl
            have hks : kAt b (j + 1) = kAt b j + 1 := by rw [kAt_succ, List.getElem?_eq_getElem hlt2, hz]; rfl
            have HKs := Lib.hid hks
            clear hks hz
            go_wp2_with fail
            go_roundw
            case rel => exact ⟨trivial, j + 1, rfl, hlt2, by rw [HKs.out]; simp⟩
            case measure => simp [intOf]; omega
          · have hb10 : ((b[j].toNat : Int) == 10) = false := byte_ne (n := 10) hz (by decide)
            by_cases hl : j + 1 = b.length
            · have n9 : decide ((j : Int) = (b.length : Int) - 1) = true := decide_eq_true (by omega)
              have hks : kAt b (j + 1) = kAt b j + 1 := by rw [kAt_succ]; simp [hl]
              have HKs := Lib.hid hks
              clear hks hz
              go_wp2_with fail
              go_roundw
              case rel => exact ⟨trivial, j + 1, rfl, hlt2, by rw [HKs.out]; simp⟩
              case measure => simp [intOf]; omega
            · have n9 : decide ((j : Int) = (b.length : Int) - 1) = false := decide_eq_false (by omega)
              have hks : kAt b (j + 1) = kAt b j := by
                rw [kAt_succ, List.getElem?_eq_getElem hlt2]
                have h1 : (some b[j] == some (10 : UInt8)) = false := by simpa using hz
                have h2 : (j + 1 == b.length) = false := by simpa using hl
                rw [h1, h2]
                rfl
              have HKs := Lib.hid hks
              clear hks hz
              go_wp2_with fail
              go_roundw
              case rel => exact ⟨trivial, j + 1, rfl, hlt2, by rw [HKs.out]⟩
              case measure => simp [intOf]; omega
        · have hje : j = b.length := by omega
          subst hje
          have n5 : decide ((b.length : Int) < (b.length : Int)) = false := decide_eq_false (by omega)
          have hkl := kAt_all b
          have hka : kAt b b.length ≤ 400000 := Nat.le_trans (kAt_le b _) (by omega)
          obtain ⟨kk, hkk⟩ : ∃ kk, kk = kAt b b.length := ⟨_, rfl⟩
          rw [← hkk] at hkl hka ⊢
          have HKl := Lib.hid hkl
          have HAr := Lib.hid (awake30 wr (HG.out.keep HR.out.2.1.below0))
          clear hkl hkk
          by_cases hs : b.length ≤ 262144
          · have n6 : decide ((b.length : Int) ≤ 262144) = true := decide_eq_true (by omega)
            by_cases hk1 : kk ≤ 10000
            · have n7 : decide ((kk : Int) ≤ 10000) = true := decide_eq_true (by omega)
              go_wp2_with fail
              refine HAr.out.mono ?_
              rintro e w5 ⟨rfl, k5⟩
              have HF := Lib.hid (HR.out.2.1.then k5)
              clear k5
              go_wp2_with fail
              go_ret
              exact ⟨rfl, HF.out⟩
            · have n7 : decide ((kk : Int) ≤ 10000) = false := decide_eq_false (by omega)
              have HPl : Hid (Calls Tryz.prog 9 #[.string ⟨b.toArray⟩] wr fun e w' => e = .returned (.string ⟨#[101, 114, 114, 111, 114, 32, 55, 10]⟩) ∧ Chg [] wr w') := Lib.hid (play_long wr (text := b) (HG.out.keep HR.out.2.1.below0) (fun h => by subst h; have h1 := HKl.out; rw [show linesN [] = 0 from rfl] at h1; omega) (by omega) (Or.inr (by rw [← HKl.out]; omega)))
              go_wp2_with fail
              refine HPl.out.mono ?_
              rintro e w5 ⟨rfl, k5⟩
              have HA5 := Lib.hid (awake30 w5 (HG.out.keep (HR.out.2.1.then k5).below0))
              have HF := Lib.hid (HR.out.2.1.then k5)
              clear k5
              go_wp2_with fail
              refine HA5.out.mono ?_
              rintro e w6 ⟨rfl, k6⟩
              have HF6 := Lib.hid (HF.out.then k6)
              clear k6
              go_wp2_with fail
              go_ret
              exact ⟨rfl, HF6.out⟩
          · have n6 : decide ((b.length : Int) ≤ 262144) = false := decide_eq_false (by omega)
            have HPl : Hid (Calls Tryz.prog 9 #[.string ⟨b.toArray⟩] wr fun e w' => e = .returned (.string ⟨#[101, 114, 114, 111, 114, 32, 55, 10]⟩) ∧ Chg [] wr w') := Lib.hid (play_long wr (text := b) (HG.out.keep HR.out.2.1.below0) (fun h => by subst h; exact hs (by decide)) (by omega) (Or.inl (by omega)))
            go_wp2_with fail
            refine HPl.out.mono ?_
            rintro e w5 ⟨rfl, k5⟩
            have HA5 := Lib.hid (awake30 w5 (HG.out.keep (HR.out.2.1.then k5).below0))
            have HF := Lib.hid (HR.out.2.1.then k5)
            clear k5
            go_wp2_with fail
            refine HA5.out.mono ?_
            rintro e w6 ⟨rfl, k6⟩
            have HF6 := Lib.hid (HF.out.then k6)
            clear k6
            go_wp2_with fail
            go_ret
            exact ⟨rfl, HF6.out⟩
theorem law3_b (s : ByteArray) (n : Int) (w : World) (hG : Scr.Gl w) (_h0 : -9223372036854775808 ≤ n) (_h1 : n ≤ 9223372036854775807) : Calls Tryz.prog 3 #[.string s, .int .i64 n] w fun e w' => e = .returned (.bool true) ∧ Chg [] w w' := by
  have h := law3_any s.data.toList n w hG
  have e : (⟨s.data.toList.toArray⟩ : ByteArray) = s := by
    cases s
    simp
  rw [e] at h
  exact h
end Go.Proofs.YtgagcbgbjkjghaaGreatDoor
