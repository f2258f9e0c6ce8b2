/- The fleet's small functions: contracts. -/
import Derived.Test.YtcjokckidpophaaGBits
import Derived.Test.YtcjokckidpophaaRows
set_option linter.all false
namespace Go.Proofs.Ytcjokckidpophaa
open Go.RowKit Go.G
set_option maxHeartbeats 1000000
theorem within_c {n lo hi : Int} {b : Bool} (hb : decide (lo ≤ n ∧ n ≤ hi) = b) (w : World) : RetV Try.prog 63 [.int .i64 n, .int .i64 lo, .int .i64 hi] w (.bool b) := by
  subst hb
  by_cases h : lo ≤ n
  all_goals
    refine enter Try.func63 rfl rfl rfl ?_
    repeat' (first | refine g_seq ?_ | refine g_list ?_ | refine gD ?_ | (refine isAS ?_; first | refine a_q ?_ | refine a_f1 ?_ | refine a_f2 ?_ | refine a_nil ?_) | (refine isAF ?_; first | refine afin1 ?_ | refine afin2 ?_) | refine qs_nil ?_ | refine ls_nil ?_ | refine g_block ?_ | refine g_then rfl ?_ | refine g_else rfl ?_ | refine g_skip ?_ | refine g_inBlock ?_ | refine g_exit rfl ?_ | (refine isL ?_; first | refine L ?_ | refine ls_skip rfl rfl ?_ | refine L (h := q_lb (hx := rfl) (hm := (by first | exact .head _ | exact .tail _ (.head _) | exact .tail _ (.tail _ (.head _)) | exact .tail _ (.tail _ (.tail _ (.head _))) | exact .tail _ (.tail _ (.tail _ (.tail _ (.head _)))))) (ht := by kernel_rfl) (hv := by rfl)) ?_ | (refine Lb ?_; intro _) | refine L (h := q_bin rfl rfl rfl) ?_) | (refine isS ?_; first | refine S ?_ | refine qs_skip rfl rfl ?_ | refine S (h := q_lb (hx := rfl) (hm := (by first | exact .head _ | exact .tail _ (.head _) | exact .tail _ (.tail _ (.head _)) | exact .tail _ (.tail _ (.tail _ (.head _))) | exact .tail _ (.tail _ (.tail _ (.tail _ (.head _)))))) (ht := by kernel_rfl) (hv := by rfl)) ?_ | refine S (h := q_bin rfl rfl rfl) ?_))
    refine g_r1 Try.func63 ?_
    simp [h]
theorem l01In_c {n lo hi : Int} {b : Bool} (hb : decide (lo ≤ n ∧ n ≤ hi) = b) (w : World) : RetV Try.prog 61 [.int .i64 n, .int .i64 lo, .int .i64 hi] w (.bool b) := by
  subst hb
  by_cases h : lo ≤ n
  all_goals
    refine enter Try.func61 rfl rfl rfl ?_
    repeat' (first | refine g_seq ?_ | refine g_list ?_ | refine gD ?_ | (refine isAS ?_; first | refine a_q ?_ | refine a_f1 ?_ | refine a_f2 ?_ | refine a_nil ?_) | (refine isAF ?_; first | refine afin1 ?_ | refine afin2 ?_) | refine qs_nil ?_ | refine ls_nil ?_ | refine g_block ?_ | refine g_then rfl ?_ | refine g_else rfl ?_ | refine g_skip ?_ | refine g_inBlock ?_ | refine g_exit rfl ?_ | (refine isL ?_; first | refine L ?_ | refine ls_skip rfl rfl ?_ | refine L (h := q_lb (hx := rfl) (hm := (by first | exact .head _ | exact .tail _ (.head _) | exact .tail _ (.tail _ (.head _)) | exact .tail _ (.tail _ (.tail _ (.head _))) | exact .tail _ (.tail _ (.tail _ (.tail _ (.head _)))))) (ht := by kernel_rfl) (hv := by rfl)) ?_ | (refine Lb ?_; intro _) | refine L (h := q_bin rfl rfl rfl) ?_) | (refine isS ?_; first | refine S ?_ | refine qs_skip rfl rfl ?_ | refine S (h := q_lb (hx := rfl) (hm := (by first | exact .head _ | exact .tail _ (.head _) | exact .tail _ (.tail _ (.head _)) | exact .tail _ (.tail _ (.tail _ (.head _))) | exact .tail _ (.tail _ (.tail _ (.tail _ (.head _)))))) (ht := by kernel_rfl) (hv := by rfl)) ?_ | refine S (h := q_bin rfl rfl rfl) ?_))
    refine g_r1 Try.func61 ?_
    simp [h]
theorem size_c {A : Option Addr} {m c : Nat} (h : (m : Int) ≤ 9223372036854775807) (w : World) : RetV Try.prog 64 [.slice A m c] w (.int .i64 m) := by
  refine enter Try.func64 rfl rfl rfl ?_
  repeat' (first | refine g_seq ?_ | refine g_list ?_ | refine gD ?_ | (refine isAS ?_; first | refine a_q ?_ | refine a_f1 ?_ | refine a_f2 ?_ | refine a_nil ?_) | (refine isAF ?_; first | refine afin1 ?_ | refine afin2 ?_) | refine qs_nil ?_ | refine ls_nil ?_ | refine g_block ?_ | refine g_then rfl ?_ | refine g_else rfl ?_ | refine g_skip ?_ | refine g_inBlock ?_ | refine g_exit rfl ?_ | (refine isL ?_; first | refine L ?_ | refine ls_skip rfl rfl ?_ | refine L (h := q_lb (hx := rfl) (hm := (by first | exact .head _ | exact .tail _ (.head _) | exact .tail _ (.tail _ (.head _)) | exact .tail _ (.tail _ (.tail _ (.head _))) | exact .tail _ (.tail _ (.tail _ (.tail _ (.head _)))))) (ht := by kernel_rfl) (hv := by rfl)) ?_ | (refine Lb ?_; intro _) | refine Lif rfl rfl rfl (fun hc => ?_) (fun hc => ?_) | refine Lne rfl rfl (fun hc => ?_) (fun hc => ?_)) | (refine isS ?_; first | refine S ?_ | refine qs_skip rfl rfl ?_ | refine S (h := q_lb (hx := rfl) (hm := (by first | exact .head _ | exact .tail _ (.head _) | exact .tail _ (.tail _ (.head _)) | exact .tail _ (.tail _ (.tail _ (.head _))) | exact .tail _ (.tail _ (.tail _ (.tail _ (.head _)))))) (ht := by kernel_rfl) (hv := by rfl)) ?_ | refine Sif rfl rfl rfl (fun hc => ?_) (fun hc => ?_) | refine Sne rfl rfl (fun hc => ?_) (fun hc => ?_)))
  exact g_r1 Try.func64 rfl
theorem bit_c {b : Bool} {x : Int} (hx : (if b then 1 else 0) = x) (w : World) : RetV Try.prog 83 [.bool b] w (.int .i64 x) := by
  subst hx
  cases b
  all_goals
    refine enter Try.func83 rfl rfl rfl ?_
    repeat' (first | refine g_seq ?_ | refine g_list ?_ | refine gD ?_ | (refine isAS ?_; first | refine a_q ?_ | refine a_f1 ?_ | refine a_f2 ?_ | refine a_nil ?_) | (refine isAF ?_; first | refine afin1 ?_ | refine afin2 ?_) | refine qs_nil ?_ | refine ls_nil ?_ | refine g_block ?_ | refine g_then rfl ?_ | refine g_else rfl ?_ | refine g_skip ?_ | refine g_inBlock ?_ | refine g_exit rfl ?_ | (refine isL ?_; first | refine L ?_ | refine ls_skip rfl rfl ?_ | refine L (h := q_lb (hx := rfl) (hm := (by first | exact .head _ | exact .tail _ (.head _) | exact .tail _ (.tail _ (.head _)) | exact .tail _ (.tail _ (.tail _ (.head _))) | exact .tail _ (.tail _ (.tail _ (.tail _ (.head _)))))) (ht := by kernel_rfl) (hv := by rfl)) ?_ | (refine Lb ?_; intro _) | refine Lif rfl rfl rfl (fun hc => ?_) (fun hc => ?_) | refine Lne rfl rfl (fun hc => ?_) (fun hc => ?_)) | (refine isS ?_; first | refine S ?_ | refine qs_skip rfl rfl ?_ | refine S (h := q_lb (hx := rfl) (hm := (by first | exact .head _ | exact .tail _ (.head _) | exact .tail _ (.tail _ (.head _)) | exact .tail _ (.tail _ (.tail _ (.head _))) | exact .tail _ (.tail _ (.tail _ (.tail _ (.head _)))))) (ht := by kernel_rfl) (hv := by rfl)) ?_ | refine Sif rfl rfl rfl (fun hc => ?_) (fun hc => ?_) | refine Sne rfl rfl (fun hc => ?_) (fun hc => ?_)))
    exact g_r1 Try.func83 rfl
end Go.Proofs.Ytcjokckidpophaa
