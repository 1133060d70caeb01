/- The walk of the reference's Parse, joined. -/
import Derived.Test.YtfdkafmomkkapaaDoorF1
import Derived.Test.YtfdkafmomkkapaaDoorF2
import Derived.Test.YtfdkafmomkkapaaDoorF3
import Derived.Test.YtfdkafmomkkapaaDoorF4
namespace Go.Proofs.YtfdkafmomkkapaaDoor
open Go.RowKit Go.Lib

/-- the reference's Parse. -/
theorem rparse_any (s : ByteArray) (w : World) (hs : s.size ≤ 1000000) (hm : (words s.data.toList).length ≤ 100000) :
    Calls Tryd.prog 17 #[.string s] w (ParseR w (parseB s.data.toList)) := by
  have hx : ∀ x ∈ words s.data.toList, x.length ≤ 1000000 := fun x h => by
    have := words_mem_length _ x h
    have e : s.data.toList.length = s.size := by simp
    omega
  cases hw : words s.data.toList with
  | nil => exact absurd hw (words_ne _)
  | cons f rest =>
    rw [hw] at hm hx
    rcases kindI_range f with h | h | h | h | h | h
    · exact rparse_begin s f rest w hs (Lib.hid hw) hm hx (Lib.hid (by rw [h]; rfl))
    · exact rparse_read s f rest w hs (Lib.hid hw) hm hx (Lib.hid (by rw [h]; rfl))
    · exact rparse_write s f rest w hs (Lib.hid hw) hm hx (Lib.hid (by rw [h]; rfl))
    · exact rparse_commit s f rest w hs (Lib.hid hw) hm hx (Lib.hid (by rw [h]; rfl))
    · exact rparse_abort s f rest w hs (Lib.hid hw) hm hx (Lib.hid (by rw [h]; rfl))
    · exact rparse_other s f rest w hs (Lib.hid hw) hm hx (Lib.hid (by rw [h]; rfl))
end Go.Proofs.YtfdkafmomkkapaaDoor
