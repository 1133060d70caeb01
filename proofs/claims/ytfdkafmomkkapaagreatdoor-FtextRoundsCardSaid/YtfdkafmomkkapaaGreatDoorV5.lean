/- Walks: strconv.ParseUint at base 16; ftext.bits. -/
import Derived.Test.YtfdkafmomkkapaaGreatDoorV4
import Derived.Deep.DeepCutAuto
namespace Go.Proofs.YtfdkafmomkkapaaGreatDoor
open Go.RowKit Go.Lib

/-- what ParseUint hands back. -/
def PuR (w : World) (l : List UInt8) (e : Ending) (w' : World) : Prop :=
  Below w.heap.size w w' ∧ match par16 0 l with
    | some v => e = .returned (.tuple #[.int .u64 v, .nilIface])
    | none => ∃ t p, e = .returned (.tuple #[.int .u64 0, .iface t p])

set_option maxRecDepth 100000 in
theorem pu_any (l : List UInt8) (w : World) (hG : Gl w) (hs : l.length = 13) : Calls Tryz.prog 37 #[.string ⟨l.toArray⟩, .int .i64 16, .int .i64 64] w (PuR w l) := by
  obtain ⟨_, _, ⟨t3, p3, h3⟩, _⟩ := hG
  have hv : w.cell? ⟨2, 0, none⟩ = some (.iface t3 p3) := World.var?_cell (show Tryz.prog.globalNamed "strconv.ErrSyntax" = some 2 by kernel_rfl) h3 0
  have hsz : (⟨l.toArray⟩ : ByteArray).size ≤ 281474976710656 := by show l.toArray.size ≤ _; simp [hs]
  go_enter Tryz.func37, Tryz.ntmps37
  go_wp2_with fail
  refine (pu16_any l w hs).mono ?_
  rintro e w1 ⟨hb1, hr⟩
  cases hp : par16 0 l with
  | some v =>
    rw [hp] at hr
    subst hr
    have HP := Lib.hid hp
    clear hp h3 hv
    go_wp2_with fail
    go_ret2
    exact ⟨hb1, by rw [HP.out]; rfl⟩
  | none =>
    rw [hp] at hr
    subst hr
    have hv1 := below_keep hb1 hv
    have HP := Lib.hid hp
    clear hp h3 hv
    go_wp2_with fail
    refine (Tryz.strconv_toError_syntax ⟨#[80, 97, 114, 115, 101, 85, 105, 110, 116]⟩ ⟨l.toArray⟩ 16 64 _ w1 hsz hv1 (Or.inr ⟨_, _, rfl⟩)).mono ?_
    rintro e w2 ⟨N, rfl, -, -, hb2⟩
    go_wp2_with fail
    go_ret2
    exact ⟨below_on hb2 hb1 (Nat.le_refl _), by rw [HP.out]; exact ⟨_, _, rfl⟩⟩

theorem cut_any (l : List UInt8) (c : UInt8) (w : World) (hG : Gl w) (hl : l.length ≤ 100000) :
    Calls Tryz.prog 35 #[.string ⟨l.toArray⟩, .string ⟨#[c]⟩] w fun e w' => e = .returned (.tuple #[.string ⟨(Lib.cut l [c]).1.toArray⟩, .string ⟨(Lib.cut l [c]).2.1.toArray⟩, .bool (Lib.cut l [c]).2.2]) ∧ ∃ n, w' = w.drewN n := by
  obtain ⟨_, ⟨m, hm⟩, _⟩ := hG
  exact Tryz.strings_Cut ⟨l.toArray⟩ ⟨#[c]⟩ m w (by show l.toArray.size < _; simp; omega) hm
end Go.Proofs.YtfdkafmomkkapaaGreatDoor
