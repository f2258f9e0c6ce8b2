/- The fleet: answers. -/
import Derived.Test.YtcjokckidpophaaFlB
set_option linter.all false
namespace Go.Proofs.Ytcjokckidpophaa
open Go.RowKit Go.G
set_option maxHeartbeats 1000000
/-- the answer of a fleet to a shot, the cells shot at told with this one -/
def ans (cell set : Int) : List Int → Int
  | [] => 0
  | p :: r => if bits .and .i64 (ishr .i64 p cell) 1 = 1 then (if bits .andNot .i64 p set = 0 then 2 else 1) else ans cell set r
theorem ans_at (cell set : Int) (xs : List Int) (k : Nat) (h : k < xs.length) : ans cell set (xs.drop k) = if bits .and .i64 (ishr .i64 (xs.getD k 0) cell) 1 = 1 then (if bits .andNot .i64 (xs.getD k 0) set = 0 then 2 else 1) else ans cell set (xs.drop (k + 1)) := by
  rw [List.drop_eq_getElem_cons h]
  simp [ans, h]
theorem answer_c (A : Option Addr) (c : Nat) (xs : List Int) (shot cell : Int) (w : World) (ha : RdA kI w A xs) (hl : xs.length ≤ 9223372036854775807) (hc0 : 0 ≤ cell) {r : Int} (hr : ans cell (bits .or .i64 shot (ishl .i64 1 cell)) xs = r) :
    RetV Try.prog 58 [.slice A xs.length c, .int .i64 shot, .int .i64 cell] w (.int .i64 r) := by
  subst hr
  refine enter Try.func58 rfl rfl rfl ?_
  repeat' (first | refine g_seq ?_ | refine g_list ?_ | refine gD ?_ | (refine isAS ?_; first | refine a_q ?_ | refine a_f1 ?_ | refine a_f2 ?_ | refine a_nil ?_) | (refine isAF ?_; first | refine afin1 ?_ | refine afin2 ?_) | refine qs_nil ?_ | refine ls_nil ?_ | refine g_block ?_ | refine g_then rfl ?_ | refine g_else rfl ?_ | refine g_skip ?_ | refine g_inBlock ?_ | refine g_exit rfl ?_ | (refine isL ?_; first | refine L ?_ | refine ls_skip rfl rfl ?_ | refine L (h := q_lb (hx := rfl) (hm := (by first | exact .head _ | exact .tail _ (.head _) | exact .tail _ (.tail _ (.head _)) | exact .tail _ (.tail _ (.tail _ (.head _))) | exact .tail _ (.tail _ (.tail _ (.tail _ (.head _)))))) (ht := by kernel_rfl) (hv := by rfl)) ?_ | (refine Lb ?_; intro _) | refine Lif rfl rfl rfl (fun hc => ?_) (fun hc => ?_) | refine Lne rfl rfl (fun hc => ?_) (fun hc => ?_)) | (refine isS ?_; first | refine S ?_ | refine qs_skip rfl rfl ?_ | refine S (h := q_lb (hx := rfl) (hm := (by first | exact .head _ | exact .tail _ (.head _) | exact .tail _ (.tail _ (.head _)) | exact .tail _ (.tail _ (.tail _ (.head _))) | exact .tail _ (.tail _ (.tail _ (.tail _ (.head _)))))) (ht := by kernel_rfl) (hv := by rfl)) ?_ | refine Sif rfl rfl rfl (fun hc => ?_) (fun hc => ?_) | refine Sne rfl rfl (fun hc => ?_) (fun hc => ?_)))
  refine g_wh (α := Nat) (fun k => k ≤ xs.length ∧ ans cell (bits .or .i64 shot (ishl .i64 1 cell)) (xs.drop k) = ans cell (bits .or .i64 shot (ishl .i64 1 cell)) xs)
    (fun k => [(0, .slice A xs.length c), (1, .int .i64 shot), (2, .int .i64 cell), (9, .slice A xs.length c), (10, .int .i64 xs.length), (11, .int .i64 k)]) (fun _ => []) (fun k => xs.length - k) 0 ⟨by omega, rfl⟩ ?_
  rintro k ⟨hk, hinv⟩ IH
  have e1 : xs.getD (k : Int).toNat 0 = xs.getD k 0 := by rw [Int.toNat_natCast]
  repeat' (first | refine g_seq ?_ | refine g_list ?_ | refine gD ?_ | (refine isAS ?_; first | refine a_q ?_ | refine a_f1 ?_ | refine a_f2 ?_ | refine a_nil ?_) | (refine isAF ?_; first | refine afin1 ?_ | refine afin2 ?_) | refine qs_nil ?_ | refine ls_nil ?_ | refine g_block ?_ | refine g_then rfl ?_ | refine g_else rfl ?_ | refine g_skip ?_ | refine g_inBlock ?_ | refine g_exit rfl ?_ | (refine isL ?_; first | refine L ?_ | refine ls_skip rfl rfl ?_ | (refine isF 83 ?_; refine Lc (h := by exact (fun w _ => bit_c rfl w)) (k' := ?_)) | refine L (h := q_ix (ri ha) rfl rfl (by kernel_rfl) rfl (by omega) (by omega)) ?_ | refine L (h := q_leI (ri ha) rfl (by kernel_rfl) (by omega) (by omega)) ?_ | refine L (h := q_lb (hx := rfl) (hm := (by first | exact .head _ | exact .tail _ (.head _) | exact .tail _ (.tail _ (.head _)) | exact .tail _ (.tail _ (.tail _ (.head _))) | exact .tail _ (.tail _ (.tail _ (.tail _ (.head _)))))) (ht := by kernel_rfl) (hv := by rfl)) ?_ | (refine Lb ?_; intro _) | refine Lif rfl rfl rfl (fun hc => ?_) (fun hc => ?_) | refine Lne rfl rfl (fun hc => ?_) (fun hc => ?_)) | (refine isS ?_; first | refine S ?_ | refine qs_skip rfl rfl ?_ | (refine isFS 83 ?_; refine Sc (h := by exact (fun w _ => bit_c rfl w)) (k' := ?_)) | refine S (h := q_ix (ri ha) rfl rfl (by kernel_rfl) rfl (by omega) (by omega)) ?_ | refine S (h := q_leI (ri ha) rfl (by kernel_rfl) (by omega) (by omega)) ?_ | refine S (h := q_lb (hx := rfl) (hm := (by first | exact .head _ | exact .tail _ (.head _) | exact .tail _ (.tail _ (.head _)) | exact .tail _ (.tail _ (.tail _ (.head _))) | exact .tail _ (.tail _ (.tail _ (.tail _ (.head _)))))) (ht := by kernel_rfl) (hv := by rfl)) ?_ | refine Sif rfl rfl rfl (fun hc => ?_) (fun hc => ?_) | refine Sne rfl rfl (fun hc => ?_) (fun hc => ?_)))
  all_goals first
    | (refine g_go (IH (k+1) ⟨by omega, ?_⟩ (by omega))
       rw [← hinv, ans_at _ _ xs k (by omega)]; clear hinv; clear IH; simp only [Int.toNat_natCast] at *; simp only [*, ↓reduceIte, Bool.false_eq_true, Int.reduceAdd])
    | (refine g_r1 Try.func58 ?_
       rw [← hinv]; clear hinv
       first
       | (rw [ans_at _ _ xs k (by omega)]; clear IH; simp only [Int.toNat_natCast] at *; simp only [*, ↓reduceIte, Bool.false_eq_true, Int.reduceAdd])
       | (rw [List.drop_of_length_le (by omega)]; rfl))
theorem l09Answer_c (A : Option Addr) (c : Nat) (xs : List Int) (set cell : Int) (w : World) (ha : RdA kI w A xs) (hl : xs.length ≤ 9223372036854775807) (hc0 : 0 ≤ cell) (hc1 : cell ≤ 9223372036854775807) {r : Int} (hr : ans cell set xs = r) :
    RetV Try.prog 54 [.slice A xs.length c, .int .i64 cell, .int .i64 set] w (.int .i64 r) := by
  subst hr
  refine enter Try.func54 rfl rfl rfl ?_
  repeat' (first | refine g_seq ?_ | refine g_list ?_ | refine gD ?_ | (refine isAS ?_; first | refine a_q ?_ | refine a_f1 ?_ | refine a_f2 ?_ | refine a_nil ?_) | (refine isAF ?_; first | refine afin1 ?_ | refine afin2 ?_) | refine qs_nil ?_ | refine ls_nil ?_ | refine g_block ?_ | refine g_then rfl ?_ | refine g_else rfl ?_ | refine g_skip ?_ | refine g_inBlock ?_ | refine g_exit rfl ?_ | (refine isL ?_; first | refine L ?_ | refine ls_skip rfl rfl ?_ | refine L (h := q_lb (hx := rfl) (hm := (by first | exact .head _ | exact .tail _ (.head _) | exact .tail _ (.tail _ (.head _)) | exact .tail _ (.tail _ (.tail _ (.head _))) | exact .tail _ (.tail _ (.tail _ (.tail _ (.head _)))))) (ht := by kernel_rfl) (hv := by rfl)) ?_ | (refine Lb ?_; intro _) | refine Lif rfl rfl rfl (fun hc => ?_) (fun hc => ?_) | refine Lne rfl rfl (fun hc => ?_) (fun hc => ?_)) | (refine isS ?_; first | refine S ?_ | refine qs_skip rfl rfl ?_ | refine S (h := q_lb (hx := rfl) (hm := (by first | exact .head _ | exact .tail _ (.head _) | exact .tail _ (.tail _ (.head _)) | exact .tail _ (.tail _ (.tail _ (.head _))) | exact .tail _ (.tail _ (.tail _ (.tail _ (.head _)))))) (ht := by kernel_rfl) (hv := by rfl)) ?_ | refine Sif rfl rfl rfl (fun hc => ?_) (fun hc => ?_) | refine Sne rfl rfl (fun hc => ?_) (fun hc => ?_)))
  refine g_wh (α := Nat) (fun k => k ≤ xs.length ∧ ans cell set (xs.drop k) = ans cell set xs)
    (fun k => [(0, .slice A xs.length c), (1, .int .i64 cell), (2, .int .i64 set), (7, .int .i64 k)]) (fun _ => []) (fun k => xs.length - k) 0 ⟨by omega, rfl⟩ ?_
  rintro k ⟨hk, hinv⟩ IH
  repeat' (first | refine g_seq ?_ | refine g_list ?_ | refine gD ?_ | (refine isAS ?_; first | refine a_q ?_ | refine a_f1 ?_ | refine a_f2 ?_ | refine a_nil ?_) | (refine isAF ?_; first | refine afin1 ?_ | refine afin2 ?_) | refine qs_nil ?_ | refine ls_nil ?_ | refine g_block ?_ | refine g_then rfl ?_ | refine g_else rfl ?_ | refine g_skip ?_ | refine g_inBlock ?_ | refine g_exit rfl ?_ | (refine isL ?_; first | refine L ?_ | refine ls_skip rfl rfl ?_ | refine L (h := q_ix (ri ha) rfl rfl (by kernel_rfl) rfl (by omega) (by omega)) ?_ | refine L (h := q_leI (ri ha) rfl (by kernel_rfl) (by omega) (by omega)) ?_ | refine L (h := q_lb (hx := rfl) (hm := (by first | exact .head _ | exact .tail _ (.head _) | exact .tail _ (.tail _ (.head _)) | exact .tail _ (.tail _ (.tail _ (.head _))) | exact .tail _ (.tail _ (.tail _ (.tail _ (.head _)))))) (ht := by kernel_rfl) (hv := by rfl)) ?_ | (refine Lb ?_; intro _) | refine Lif rfl rfl rfl (fun hc => ?_) (fun hc => ?_) | refine Lne rfl rfl (fun hc => ?_) (fun hc => ?_)) | (refine isS ?_; first | refine S ?_ | refine qs_skip rfl rfl ?_ | refine S (h := q_ix (ri ha) rfl rfl (by kernel_rfl) rfl (by omega) (by omega)) ?_ | refine S (h := q_leI (ri ha) rfl (by kernel_rfl) (by omega) (by omega)) ?_ | refine S (h := q_lb (hx := rfl) (hm := (by first | exact .head _ | exact .tail _ (.head _) | exact .tail _ (.tail _ (.head _)) | exact .tail _ (.tail _ (.tail _ (.head _))) | exact .tail _ (.tail _ (.tail _ (.tail _ (.head _)))))) (ht := by kernel_rfl) (hv := by rfl)) ?_ | refine Sif rfl rfl rfl (fun hc => ?_) (fun hc => ?_) | refine Sne rfl rfl (fun hc => ?_) (fun hc => ?_)))
  all_goals first
    | (refine g_go (IH (k+1) ⟨by omega, ?_⟩ (by omega))
       rw [← hinv, ans_at _ _ xs k (by omega)]; clear hinv; clear IH; simp only [Int.toNat_natCast] at *
       rw [if_neg (by omega)])
    | (refine g_r1 Try.func54 ?_
       rw [← hinv]; clear hinv
       first
       | (rw [ans_at _ _ xs k (by omega)]; clear IH; simp only [Int.toNat_natCast] at *; rw [if_pos (and1_ne (by assumption))]; simp only [*, ↓reduceIte])
       | (rw [List.drop_of_length_le (by omega)]; rfl))
end Go.Proofs.Ytcjokckidpophaa
