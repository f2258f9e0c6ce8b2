/- The fleet's small functions: contracts. -/
import Derived.Test.YtcjokckidpophaaFlA
set_option linter.all false
namespace Go.Proofs.Ytcjokckidpophaa
open Go.RowKit Go.G
set_option maxHeartbeats 1000000
theorem isRising_c (A : Option Addr) (c : Nat) (xs : List Int) (lo hi : Int) (w : World) (ha : RdA kI w A xs) (hl : xs.length ≤ 9223372036854775807) {b : Bool} (hb : decide (∀ j, j < xs.length → lo ≤ xs.getD j 0 ∧ xs.getD j 0 ≤ hi ∧ (0 < j → xs.getD (j - 1) 0 < xs.getD j 0)) = b) :
    RetV Try.prog 89 [.slice A xs.length c, .int .i64 lo, .int .i64 hi] w (.bool b) := by
  refine enter Try.func89 rfl rfl rfl ?_
  repeat' (first | refine g_seq ?_ | refine g_list ?_ | refine gD ?_ | (refine isAS ?_; first | refine a_q ?_ | refine a_f1 ?_ | refine a_f2 ?_ | refine a_nil ?_) | (refine isAF ?_; first | refine afin1 ?_ | refine afin2 ?_) | refine qs_nil ?_ | refine ls_nil ?_ | refine g_block ?_ | refine g_then rfl ?_ | refine g_else rfl ?_ | refine g_skip ?_ | refine g_inBlock ?_ | refine g_exit rfl ?_ | (refine isL ?_; first | refine L ?_ | refine ls_skip rfl rfl ?_ | refine L (h := q_lb (hx := rfl) (hm := (by first | exact .head _ | exact .tail _ (.head _) | exact .tail _ (.tail _ (.head _)) | exact .tail _ (.tail _ (.tail _ (.head _))) | exact .tail _ (.tail _ (.tail _ (.tail _ (.head _)))))) (ht := by kernel_rfl) (hv := by rfl)) ?_ | (refine Lb ?_; intro _) | refine Lif rfl rfl rfl (fun hc => ?_) (fun hc => ?_) | refine Lne rfl rfl (fun hc => ?_) (fun hc => ?_)) | (refine isS ?_; first | refine S ?_ | refine qs_skip rfl rfl ?_ | refine S (h := q_lb (hx := rfl) (hm := (by first | exact .head _ | exact .tail _ (.head _) | exact .tail _ (.tail _ (.head _)) | exact .tail _ (.tail _ (.tail _ (.head _))) | exact .tail _ (.tail _ (.tail _ (.tail _ (.head _)))))) (ht := by kernel_rfl) (hv := by rfl)) ?_ | refine Sif rfl rfl rfl (fun hc => ?_) (fun hc => ?_) | refine Sne rfl rfl (fun hc => ?_) (fun hc => ?_)))
  refine g_wh (α := Nat) (fun k => k ≤ xs.length ∧ ∀ j, j < k → lo ≤ xs.getD j 0 ∧ xs.getD j 0 ≤ hi ∧ (0 < j → xs.getD (j - 1) 0 < xs.getD j 0))
    (fun k => [(0, .slice A xs.length c), (1, .int .i64 lo), (2, .int .i64 hi), (9, .slice A xs.length c), (10, .int .i64 xs.length), (11, .int .i64 k)]) (fun _ => []) (fun k => xs.length - k) 0 ⟨by omega, by omega⟩ ?_
  rintro k ⟨hk, hinv⟩ IH
  have e1 : xs.getD k 0 = xs.getD (k : Int).toNat 0 := by rw [Int.toNat_natCast]
  have e2 : 0 < k → xs.getD (k - 1) 0 = xs.getD ((k : Int) - 1).toNat 0 := fun h => by rw [show ((k : Int) - 1).toNat = k - 1 from by omega]
  repeat' (first | refine g_seq ?_ | refine g_list ?_ | refine gD ?_ | (refine isAS ?_; first | refine a_q ?_ | refine a_f1 ?_ | refine a_f2 ?_ | refine a_nil ?_) | (refine isAF ?_; first | refine afin1 ?_ | refine afin2 ?_) | refine qs_nil ?_ | refine ls_nil ?_ | refine g_block ?_ | refine g_then rfl ?_ | refine g_else rfl ?_ | refine g_skip ?_ | refine g_inBlock ?_ | refine g_exit rfl ?_ | (refine isL ?_; first | refine L ?_ | refine ls_skip rfl rfl ?_ | (refine isF 63 ?_; refine Lcb (h := by exact (fun w _ => within_c rfl w)) (kt := fun hc => ?_) (kf := fun hc => ?_)) | refine L (h := q_ix (ri ha) rfl rfl (by kernel_rfl) rfl (by omega) (by omega)) ?_ | refine L (h := q_leI (ri ha) rfl (by kernel_rfl) (by omega) (by omega)) ?_ | refine L (h := q_lb (hx := rfl) (hm := (by first | exact .head _ | exact .tail _ (.head _) | exact .tail _ (.tail _ (.head _)) | exact .tail _ (.tail _ (.tail _ (.head _))) | exact .tail _ (.tail _ (.tail _ (.tail _ (.head _)))))) (ht := by kernel_rfl) (hv := by rfl)) ?_ | (refine Lb ?_; intro _) | refine Lif rfl rfl rfl (fun hc => ?_) (fun hc => ?_) | refine Lne rfl rfl (fun hc => ?_) (fun hc => ?_)) | (refine isS ?_; first | refine S ?_ | refine qs_skip rfl rfl ?_ | (refine isFS 63 ?_; refine Scb (h := by exact (fun w _ => within_c rfl w)) (kt := fun hc => ?_) (kf := fun hc => ?_)) | refine S (h := q_ix (ri ha) rfl rfl (by kernel_rfl) rfl (by omega) (by omega)) ?_ | refine S (h := q_leI (ri ha) rfl (by kernel_rfl) (by omega) (by omega)) ?_ | refine S (h := q_lb (hx := rfl) (hm := (by first | exact .head _ | exact .tail _ (.head _) | exact .tail _ (.tail _ (.head _)) | exact .tail _ (.tail _ (.tail _ (.head _))) | exact .tail _ (.tail _ (.tail _ (.tail _ (.head _)))))) (ht := by kernel_rfl) (hv := by rfl)) ?_ | refine Sif rfl rfl rfl (fun hc => ?_) (fun hc => ?_) | refine Sne rfl rfl (fun hc => ?_) (fun hc => ?_)))
  all_goals first
    | (refine g_go (IH (k+1) ⟨by omega, fun j hj => ?_⟩ (by omega))
       rcases Nat.lt_or_ge j k with h | h
       · exact hinv j h
       · obtain rfl : j = k := by omega
         simp at *; omega)
    | (refine g_r1 Try.func89 ?_
       rw [← hb, decide_eq_false]
       intro hh
       have h3 := hh k (by omega)
       simp at *; omega)
    | (refine g_r1 Try.func89 ?_
       rw [← hb, decide_eq_true]
       exact fun j hj => hinv j (by omega))
theorem IsSea_c (W H : Int) (A : Option Addr) (c : Nat) (xs : List Int) (w : World) (ha : RdA kI w A xs) (hl : xs.length ≤ 9223372036854775807) {b : Bool}
    (hb : decide (1 ≤ W ∧ W ≤ 5 ∧ 1 ≤ H ∧ H ≤ 5 ∧ 1 ≤ xs.length ∧ xs.length ≤ 3 ∧ ∀ j, j < xs.length → 1 ≤ xs.getD j 0 ∧ xs.getD j 0 ≤ 5 ∧ (0 < j → xs.getD j 0 ≤ xs.getD (j - 1) 0)) = b) :
    RetV Try.prog 38 [.agg #[.int .i64 W, .int .i64 H, .slice A xs.length c]] w (.bool b) := by
  refine enter Try.func38 rfl rfl rfl ?_
  repeat' (first | refine g_seq ?_ | refine g_list ?_ | refine gD ?_ | (refine isAS ?_; first | refine a_q ?_ | refine a_f1 ?_ | refine a_f2 ?_ | refine a_nil ?_) | (refine isAF ?_; first | refine afin1 ?_ | refine afin2 ?_) | refine qs_nil ?_ | refine ls_nil ?_ | refine g_block ?_ | refine g_then rfl ?_ | refine g_else rfl ?_ | refine g_skip ?_ | refine g_inBlock ?_ | refine g_exit rfl ?_ | (refine isL ?_; first | refine L ?_ | refine ls_skip rfl rfl ?_ | (refine isF 64 ?_; refine Lc (h := by exact (fun w _ => size_c (by omega) w)) (k' := ?_)) | (refine isF 63 ?_; refine Lcb (h := by exact (fun w _ => within_c rfl w)) (kt := fun hc => ?_) (kf := fun hc => ?_)) | refine L (h := q_lb (hx := rfl) (hm := (by first | exact .head _ | exact .tail _ (.head _) | exact .tail _ (.tail _ (.head _)) | exact .tail _ (.tail _ (.tail _ (.head _))) | exact .tail _ (.tail _ (.tail _ (.tail _ (.head _)))))) (ht := by kernel_rfl) (hv := by rfl)) ?_ | (refine Lb ?_; intro _) | refine Lif rfl rfl rfl (fun hc => ?_) (fun hc => ?_) | refine Lne rfl rfl (fun hc => ?_) (fun hc => ?_)) | (refine isS ?_; first | refine S ?_ | refine qs_skip rfl rfl ?_ | (refine isFS 64 ?_; refine Sc (h := by exact (fun w _ => size_c (by omega) w)) (k' := ?_)) | (refine isFS 63 ?_; refine Scb (h := by exact (fun w _ => within_c rfl w)) (kt := fun hc => ?_) (kf := fun hc => ?_)) | refine S (h := q_lb (hx := rfl) (hm := (by first | exact .head _ | exact .tail _ (.head _) | exact .tail _ (.tail _ (.head _)) | exact .tail _ (.tail _ (.tail _ (.head _))) | exact .tail _ (.tail _ (.tail _ (.tail _ (.head _)))))) (ht := by kernel_rfl) (hv := by rfl)) ?_ | refine Sif rfl rfl rfl (fun hc => ?_) (fun hc => ?_) | refine Sne rfl rfl (fun hc => ?_) (fun hc => ?_)))
  all_goals try (refine g_r1 Try.func38 ?_; rw [← hb, decide_eq_false]; simp at *; omega)
  refine g_wh (α := Nat) (fun k => k ≤ xs.length ∧ ∀ j, j < k → 1 ≤ xs.getD j 0 ∧ xs.getD j 0 ≤ 5 ∧ (0 < j → xs.getD j 0 ≤ xs.getD (j - 1) 0))
    (fun k => [(23, .slice A xs.length c), (24, .int .i64 xs.length), (25, .int .i64 k), (1, .pointer (some ⟨_, 0, none⟩))]) (fun _ => _) (fun k => xs.length - k) 0 ⟨by omega, by omega⟩ ?_
  rintro k ⟨hk, hinv⟩ IH
  have e1 : xs.getD k 0 = xs.getD (k : Int).toNat 0 := by rw [Int.toNat_natCast]
  have e2 : 0 < k → xs.getD (k - 1) 0 = xs.getD ((k : Int) - 1).toNat 0 := fun h => by rw [show ((k : Int) - 1).toNat = k - 1 from by omega]
  repeat' (first | refine g_seq ?_ | refine g_list ?_ | refine gD ?_ | (refine isAS ?_; first | refine a_q ?_ | refine a_f1 ?_ | refine a_f2 ?_ | refine a_nil ?_) | (refine isAF ?_; first | refine afin1 ?_ | refine afin2 ?_) | refine qs_nil ?_ | refine ls_nil ?_ | refine g_block ?_ | refine g_then rfl ?_ | refine g_else rfl ?_ | refine g_skip ?_ | refine g_inBlock ?_ | refine g_exit rfl ?_ | (refine isL ?_; first | refine L ?_ | refine ls_skip rfl rfl ?_ | (refine isF 63 ?_; refine Lcb (h := by exact (fun w _ => within_c rfl w)) (kt := fun hc => ?_) (kf := fun hc => ?_)) | refine L (h := q_ix (ri ha) rfl rfl (by kernel_rfl) rfl (by omega) (by omega)) ?_ | refine L (h := q_leI (ri ha) rfl (by kernel_rfl) (by omega) (by omega)) ?_ | refine L (h := q_lb (hx := rfl) (hm := (by first | exact .head _ | exact .tail _ (.head _) | exact .tail _ (.tail _ (.head _)) | exact .tail _ (.tail _ (.tail _ (.head _))) | exact .tail _ (.tail _ (.tail _ (.tail _ (.head _)))))) (ht := by kernel_rfl) (hv := by rfl)) ?_ | (refine Lb ?_; intro _) | refine Lif rfl rfl rfl (fun hc => ?_) (fun hc => ?_) | refine Lne rfl rfl (fun hc => ?_) (fun hc => ?_)) | (refine isS ?_; first | refine S ?_ | refine qs_skip rfl rfl ?_ | (refine isFS 63 ?_; refine Scb (h := by exact (fun w _ => within_c rfl w)) (kt := fun hc => ?_) (kf := fun hc => ?_)) | refine S (h := q_ix (ri ha) rfl rfl (by kernel_rfl) rfl (by omega) (by omega)) ?_ | refine S (h := q_leI (ri ha) rfl (by kernel_rfl) (by omega) (by omega)) ?_ | refine S (h := q_lb (hx := rfl) (hm := (by first | exact .head _ | exact .tail _ (.head _) | exact .tail _ (.tail _ (.head _)) | exact .tail _ (.tail _ (.tail _ (.head _))) | exact .tail _ (.tail _ (.tail _ (.tail _ (.head _)))))) (ht := by kernel_rfl) (hv := by rfl)) ?_ | refine Sif rfl rfl rfl (fun hc => ?_) (fun hc => ?_) | refine Sne rfl rfl (fun hc => ?_) (fun hc => ?_)))
  all_goals first
    | (refine g_go (IH (k+1) ⟨by omega, fun j hj => ?_⟩ (by omega))
       rcases Nat.lt_or_ge j k with h | h
       · exact hinv j h
       · obtain rfl : j = k := by omega
         simp at *; omega)
    | (refine g_r1 Try.func38 ?_
       rw [← hb, decide_eq_false]
       intro hh
       have h3 := hh.2.2.2.2.2.2 k (by omega)
       simp at *; omega)
    | (refine g_r1 Try.func38 ?_
       rw [← hb, decide_eq_true]
       simp at *
       exact ⟨by omega, by omega, by omega, by omega, by omega, by omega, fun j hj => hinv j (by omega)⟩)
end Go.Proofs.Ytcjokckidpophaa
