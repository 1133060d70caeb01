/- The walk of script.Parse, joined. -/
import Derived.Test.YtfdkafmomkkapaaDoorE2
namespace Go.Proofs.YtfdkafmomkkapaaDoor
open Go.RowKit Go.Lib

theorem words_mem_length : ∀ (l x : List UInt8), x ∈ words l → x.length ≤ l.length
  | [], x, h => by simp [words] at h; subst h; simp
  | c :: r, x, h => by
    unfold words at h
    split at h
    · rcases List.mem_cons.1 h with rfl | h
      · simp
      · have := words_mem_length r x h; simp; omega
    · split at h
      · rename_i w ws hw
        rcases List.mem_cons.1 h with rfl | h
        · have := words_mem_length r w (by rw [hw]; simp); simp; omega
        · have := words_mem_length r x (by rw [hw]; simp [h]); simp; omega
      · rcases List.mem_cons.1 h with rfl | h
        · simp
        · cases h

theorem kindI_range (f : List UInt8) : kindI f = 0 ∨ kindI f = 1 ∨ kindI f = 2 ∨ kindI f = 3 ∨ kindI f = 4 ∨ kindI f = -1 := by
  unfold kindI
  repeat' split
  all_goals simp

/-- script.Parse. -/
theorem parse_any (s : ByteArray) (w : World) (hG : Gl w) (hs : s.size ≤ 1000000) (hm : (words s.data.toList).length ≤ 100000) :
    Calls Tryd.prog 16 #[.string s] w (ParseR w (parseA s.data.toList)) := by
  have hx : ∀ x ∈ words s.data.toList, x.length ≤ 1000000 := fun x h => by
    have := words_mem_length _ x h
    have e : s.data.toList.length = s.size := by simp
    omega
  cases hw : words s.data.toList with
  | nil => exact absurd hw (words_ne _)
  | cons f rest =>
    rw [hw] at hm hx
    rcases kindI_range f with h | h | h | h | h | h
    · exact parse_begin s f rest w hG hs (Lib.hid hw) hm hx (Lib.hid h)
    · exact parse_read s f rest w hG hs (Lib.hid hw) hm hx (Lib.hid h)
    · exact parse_write s f rest w hG hs (Lib.hid hw) hm hx (Lib.hid h)
    · exact parse_commit s f rest w hG hs (Lib.hid hw) hm hx (Lib.hid h)
    · exact parse_abort s f rest w hG hs (Lib.hid hw) hm hx (Lib.hid h)
    · exact parse_other s f rest w hG hs (Lib.hid hw) hm hx (Lib.hid h)
end Go.Proofs.YtfdkafmomkkapaaDoor
