/- What comes in: seas, lists, shots. -/
import Derived.Test.YtcjokckidpophaaGOpen
import Derived.Test.YtcjokckidpophaaFlT
set_option linter.all false
namespace Go.Proofs.Ytcjokckidpophaa
open Go.RowKit Go.G
set_option maxHeartbeats 1000000
theorem in_ints {w : World} {v : Value} (h : In Try.prog w 22 v) : ∃ A c xs, v = .slice A xs.length c ∧ xs.length ≤ 9223372036854775807 ∧ RdA kI w A xs := by
  obtain ⟨A, c, xs, h1, h2, h3⟩ := h.slice (Try.underlying22) (k := kIntW .i64) (by kernel_rfl) (opens_int Try.underlying2)
  exact ⟨A, c, xs, h1, h2, h3.le (le_intW _)⟩
theorem in_shots {w : World} {v : Value} (h : In Try.prog w 25 v) : ∃ A c xs, v = .slice A xs.length c ∧ xs.length ≤ 9223372036854775807 ∧ RdA (Kd.of eShot) w A xs := by
  obtain ⟨A, c, xs, h1, h2, h3⟩ := h.slice (Try.underlying25) (k := kPair (kIntW .i64) (kIntW .i64)) (by kernel_rfl)
    (opens_pair (t1 := 0) (t2 := 0) Try.underlying57 rfl rfl (by kernel_rfl) (by kernel_rfl) (by kernel_rfl) (opens_int Try.underlying2) (opens_int Try.underlying2))
  exact ⟨A, c, xs, h1, h2, h3.le (le_pair (b := eI) (d := eI) (le_intW _) (le_intW _))⟩
theorem in_sea {w : World} {v : Value} (h : In Try.prog w 24 v) : ∃ W H A c xs, v = .agg #[.int .i64 W, .int .i64 H, .slice A xs.length c] ∧ xs.length ≤ 9223372036854775807 ∧ RdA kI w A xs := by
  obtain ⟨cs, ⟨W, H, ships⟩, rfl, _, _, e, ⟨rfl, _⟩, _, _, rfl, ⟨rfl, _⟩, v, rfl, A, c, rfl, hl, hr⟩ := h.struct Try.underlying24 (k := kPair (kIntW .i64) (kPair (kIntW .i64) (kSl (kIntW .i64))))
    (opens_triple Try.underlying24 rfl rfl rfl (by kernel_rfl) (by kernel_rfl) (by kernel_rfl) (by kernel_rfl) (opens_int Try.underlying2) (opens_int Try.underlying2) (opens_slice Try.underlying22 (by kernel_rfl) (opens_int Try.underlying2)))
  refine ⟨W, H, A, c, ships, ?_, hl, hr.le (le_intW _)⟩
  congr 1
  apply Array.ext'
  simpa using e
end Go.Proofs.Ytcjokckidpophaa
