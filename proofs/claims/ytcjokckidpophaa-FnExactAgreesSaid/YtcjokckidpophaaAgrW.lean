/- FnExactAgrees: the walk over whatever comes in. -/
import Derived.Test.YtcjokckidpophaaFlU
set_option linter.all false
namespace Go.Proofs.Ytcjokckidpophaa
open Go.RowKit Go.G
theorem FnExactAgrees_walk {v0 v1 v2 : Value} {W : World} (h0 : In Try.prog W 24 v0) (h1 : In Try.prog W 22 v1) (h2 : In Try.prog W 25 v2) :
    Calls Try.prog 3 #[v0, v1, v2] W fun e W' => e = .returned (.bool true) ∧ Below W.heap.size W W' := by
  obtain ⟨wi, hi, A, c, ships, rfl, hl0, ha⟩ := in_sea h0
  obtain ⟨B, c1, fleet, rfl, hl1, hb⟩ := in_ints h1
  obtain ⟨D, c2, sh, rfl, hl2, hd⟩ := in_shots h2
  exact Calls.mono (lawAgrees_c ha hl0 hb hl1 hd hl2) fun e W' h => ⟨h.1, h.2.below⟩
end Go.Proofs.Ytcjokckidpophaa
