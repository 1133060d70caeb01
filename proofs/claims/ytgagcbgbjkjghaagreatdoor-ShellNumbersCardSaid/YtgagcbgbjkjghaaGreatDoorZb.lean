/- Lemmas and walks: Walks: a script that cuts the power behind a number of ops, and asks how the store is. -/
import Derived.Test.YtgagcbgbjkjghaaGreatDoorXn
import Derived.Test.YtgagcbgbjkjghaaGreatDoorZa
namespace Go.Proofs.YtgagcbgbjkjghaaGreatDoor
open Go.RowKit Go.Lib

def statL : List UInt8 := [115, 116, 97, 116]
/-- the line that cuts behind a word. -/
def cutL (w : List UInt8) : List UInt8 := [99, 117, 116] ++ 32 :: w
def textN (w : List UInt8) : List UInt8 := cutL w ++ 10 :: (statL ++ [10])
/-- the end: the first line's answer, and how the store is. -/
def finN (ol : List UInt8) : List UInt8 := ol ++ (Lib.join statW [32] ++ [10])
section
variable {w0 : World} {lw K : Nat} {d : Ids} {ops : Int}
/-- a shell whose store did nothing. -/
def StQ (w0 : World) (lw K : Nat) (d : Ids) (ol : List UInt8) (x : World) : Prop :=
  ∃ ov, Sh x w0.heap.size K lw ov ol ∧ Qt x K d.N d.P ∧ Up w0.heap.size w0 x ∧ lw ≤ x.heap.size ∧ w0.heap.size ≤ lw
theorem StQ.keep {x y : World} {ol : List UInt8} (h : StQ w0 lw K d ol x) (k : Chg [] x y) : StQ w0 lw K d ol y := by
  obtain ⟨ov, h1, h2, h3, h4, h5⟩ := h
  exact ⟨ov, ⟨k.heap h1.1 (by simp), own_keep h1.2 k.below0⟩, h2.keep k, h3.then k (fun x hx => by cases hx), Nat.le_trans h4 k.size, h5⟩
def IN (w0 : World) (lw K : Nat) (d : Ids) (ops : Int) (w ol : List UInt8) (r : List UInt8) (x : World) : Prop :=
  (r = textN w ∧ StA w0 w0.heap.size lw w0.heap.size K d ops (.slice none 0 0) [] [] x) ∨ (r = statL ++ [10] ∧ StQ w0 lw K d ol x) ∨ (r = [] ∧ ∃ ov, Sh x w0.heap.size K lw ov (finN ol) ∧ Chg [] w0 x)
theorem cutStat : Lib.cut (statL ++ [10]) [10] = (statL, [], true) := by kernel_rfl
theorem preStat : Lib.hasPrefix statL opP = false := by kernel_rfl
theorem wordsStat : words statL = [statL] := by kernel_rfl
theorem preCut (w : List UInt8) : Lib.hasPrefix (cutL w) opP = false := rfl
theorem wordsCut (w : List UInt8) : words (cutL w) = [99, 117, 116] :: words w := words_cut _ _ (by decide)
theorem cutText (w : List UInt8) (h : ∀ c ∈ w, c ≠ 10) : Lib.cut (textN w) [10] = (99 :: ([117, 116] ++ 32 :: w), statL ++ [10], true) := cut10 (cutL w) (statL ++ [10]) (fun c hc => by
  unfold cutL at hc
  simp at hc
  rcases hc with rfl | rfl | rfl | rfl | h'
  · decide
  · decide
  · decide
  · decide
  · exact h c h')
/-- the first line's answer: ok, if its word is a number. -/
inductive Form (w ol : List UInt8) : Prop
  | good (n : Int) (h0 : 0 ≤ n) (hn : numF w = some n) (hb : ∀ c ∈ w, c ≠ 32) (ho : ol = okT)
  | bad (nw : List UInt8) (r : List (List UInt8)) (hw : words w = nw :: r) (hr : r.length ≤ 100) (hl : ∀ x ∈ nw :: r, x.length ≤ 1000000) (hn : numF nw = none) (ho : ol = errW ++ [10])
theorem scriptN (hG : Scr.Gl w0) {w ol : List UInt8} (hl : w.length ≤ 100) (h10 : ∀ c ∈ w, c ≠ 10) (hf : Form w ol) : Script w0 w0.heap.size K lw (finN ol) (IN w0 lw K d ops w ol) where
  keep := by
    intro r a b h k
    rcases h with ⟨rfl, h⟩ | ⟨rfl, h⟩ | ⟨rfl, ov, h1, h2⟩
    · exact Or.inl ⟨rfl, h.keep k⟩
    · exact Or.inr (Or.inl ⟨rfl, h.keep k⟩)
    · exact Or.inr (Or.inr ⟨rfl, ov, ⟨k.heap h1.1 (by simp), own_keep h1.2 k.below0⟩, h2.then k⟩)
  gl := by
    intro r a h
    rcases h with ⟨rfl, h⟩ | ⟨rfl, ov, -, -, h, -⟩ | ⟨rfl, ov, h1, h2⟩
    · exact h.gl hG
    · exact h.gl hG
    · exact hG.keep h2.below0
  last := by
    intro x h
    rcases h with ⟨e, -⟩ | ⟨e, -⟩ | ⟨-, ov, h1, h2⟩
    · cases e
    · cases e
    · exact ⟨ov, h1, h2⟩
  line := by
    intro r x h hr
    rcases h with ⟨rfl, h⟩ | ⟨rfl, h⟩ | ⟨rfl, -⟩
    · refine ⟨by simp [textN, cutL, statL]; omega, _, _, _, _, cutText w h10, by decide, by simp [textN, cutL, statL], ?_⟩
      rcases hf with ⟨n, h0, hn, hb, ho⟩ | ⟨nw, r, hw, hrl, hxl, hn, ho⟩
      · refine (line_one x (l := cutL w) (wd := [99, 117, 116]) (nw := w) (n := n) (b := true) (Q := fun w' => IN w0 lw K d ops w ol (statL ++ [10]) w') (h.gl hG) (by simp [cutL]; omega) (preCut w) (by rw [wordsCut, words_none w hb]) ⟨by decide, by omega⟩ hn (by decide) (by decide) (fun wx kx => ?_)).mono ?_
        · have hx := h.keep kx
          refine (single_cut wx h0 hx.sh hx.qt (by decide) hx.lws (r0 := [107]) rfl (fun _ => rfl)).mono ?_
          rintro e w' ⟨rfl, w2, ov', k2, sh2, q2, hs, hsh⟩
          have hN : w0.heap.size ≤ d.N := Nat.le_trans hx.lul hx.sto.bnd.2.1
          have hup : Up w0.heap.size w0 w2 := hx.up.then k2 (fun y hy _ => by rw [List.mem_singleton] at hy; omega)
          subst ho
          refine ⟨rfl, Or.inr (Or.inl ⟨rfl, ov', hsh, q2.say hs sh2.1, Up.say hup hs (Nat.le_refl _) hx.lul, ?_, hx.lul⟩)⟩
          obtain ⟨U, k3, -⟩ := hs
          exact Nat.le_trans hx.lws (Nat.le_trans k2.size k3.size)
        · rintro e w' ⟨h1, h2⟩
          exact lineR_true h1 h2
      · refine (line_bad x (l := cutL w) (wd := [99, 117, 116]) (nw := nw) (r := r) (h.gl hG) (by simp [cutL]; omega) (preCut w) (by rw [wordsCut, hw]) hxl hrl hn).mono ?_
        rintro e w' ⟨rfl, k⟩
        refine ⟨false, rfl, fun h => (by cases h), fun _ => (h.keep k).errK (fun w2 ov h1 h2 h3 h4 => ?_)⟩
        subst ho
        exact Or.inr (Or.inl ⟨rfl, ov, h1, h3, h2, h4, h.lul⟩)
    · obtain ⟨ov, sh, q, up, lws, lul⟩ := h
      refine ⟨by decide, _, _, _, _, cutStat, by decide, by decide, ?_⟩
      obtain ⟨c, r0, hc, hl0, hol⟩ : ∃ c r0, ol ++ Lib.join statW [32] = c :: r0 ∧ (ol = [] → ov = .slice none 0 0) ∧ ol.length ≤ 100000 := by
        rcases hf with ⟨n, h0, hn, hb, ho⟩ | ⟨nw, r, hw, hrl, hxl, hn, ho⟩
        · subst ho
          exact ⟨_, _, rfl, (fun h => by cases h), by decide⟩
        · subst ho
          exact ⟨_, _, rfl, (fun h => by cases h), by decide⟩
      refine (line_bare x (b := true) (Q := fun w' => IN w0 lw K d ops w ol [] w') (up.gl hG) (by decide) preStat wordsStat (by decide) (by decide) (fun wx kx => ?_)).mono ?_
      · refine (bare_stat wx (K := K) (N := d.N) (P := d.P) (lo := lw) (ov := ov) (ol := ol) ((up.gl hG).keep kx.below0) ⟨kx.heap sh.1 (by simp), own_keep sh.2 kx.below0⟩ (q.keep kx) hol (Nat.le_trans lws kx.size) hc hl0).mono ?_
        rintro e w' ⟨rfl, ov', hsh, hs⟩
        refine ⟨rfl, Or.inr (Or.inr ⟨rfl, ov', hsh, ?_⟩)⟩
        exact (Up.say (up.then kx (fun y hy => by cases hy)) hs (Nat.le_refl _) lul).chg
      · rintro e w' ⟨h1, h2⟩
        exact lineR_true h1 h2
    · exact absurd rfl hr
end
theorem playN (w0 : World) (hG : Scr.Gl w0) {w ol : List UInt8} (hl : w.length ≤ 100) (h10 : ∀ c ∈ w, c ≠ 10) (hf : Form w ol) : Calls Tryz.prog 9 #[.string ⟨(textN w).toArray⟩] w0 fun e w' => e = .returned (.string ⟨(finN ol).toArray⟩) ∧ Chg [] w0 w' :=
  play_any w0 hG (by simp [textN, cutL]) (by simp [textN, cutL, statL]; omega) (by have := linesN_le (textN w); have h2 : (textN w).length ≤ 200 := by simp [textN, cutL, statL]; omega
                                                                                   omega) (fun lw K d ops w1 h _ => ⟨IN w0 lw K d ops w ol, Or.inl ⟨rfl, h⟩, scriptN hG hl h10 hf⟩)
end Go.Proofs.YtgagcbgbjkjghaaGreatDoor
