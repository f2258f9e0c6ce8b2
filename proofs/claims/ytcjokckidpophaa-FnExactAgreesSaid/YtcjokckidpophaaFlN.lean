/- The fleet: l09Different, l09Shots. -/
import Derived.Test.YtcjokckidpophaaFlM
set_option linter.all false
namespace Go.Proofs.Ytcjokckidpophaa
open Go.RowKit Go.G
set_option maxHeartbeats 2000000
/-- the set of the first cells -/
def setD (cells : List Int) : Nat → Int
  | 0 => 0
  | k + 1 => bits .or .i64 (setD cells k) (ishl .i64 1 (cells.getD k 0))
def difS (W H : Int) (cells : List Int) : Bool := decide (∀ k, k < cells.length → (0 ≤ cells.getD k 0 ∧ cells.getD k 0 ≤ W * H - 1) ∧ ¬ bits .and .i64 (ishr .i64 (setD cells k) (cells.getD k 0)) 1 = 1)
theorem l09Different_c {A B : Option Addr} {m m' c c' : Nat} {W H : Int} {cells : List Int} {w : World} (hb : RdA kI w B cells) (hm' : m' = cells.length) (hl : cells.length ≤ 9223372036854775807)
    (hW0 : 1 ≤ W) (hW : W ≤ 5) (hH0 : 1 ≤ H) (hH : H ≤ 5) {b : Bool} (hr : difS W H cells = b) :
    RetV Try.prog 62 [.agg #[.int .i64 W, .int .i64 H, .slice A m c], .slice B m' c'] w (.bool b) := by
  subst hm'
  have hWH := mul_bounds (a := W) (b := H) (by omega) (by omega) (by omega) (by omega)
  refine enter Try.func62 rfl rfl rfl ?_
  repeat' (first | refine g_seq ?_ | refine g_list ?_ | refine gD ?_ | (refine isAS ?_; first | refine a_q ?_ | refine a_f1 ?_ | refine a_f2 ?_ | refine a_nil ?_) | (refine isAF ?_; first | refine afin1 ?_ | refine afin2 ?_) | refine qs_nil ?_ | refine ls_nil ?_ | refine g_block ?_ | refine g_then rfl ?_ | refine g_else rfl ?_ | refine g_skip ?_ | refine g_inBlock ?_ | refine g_exit rfl ?_ | (refine isL ?_; first | refine L ?_ | refine ls_skip rfl rfl ?_ | refine L (h := q_lb (hx := rfl) (hm := (by first | exact .head _ | exact .tail _ (.head _) | exact .tail _ (.tail _ (.head _)) | exact .tail _ (.tail _ (.tail _ (.head _))) | exact .tail _ (.tail _ (.tail _ (.tail _ (.head _)))))) (ht := by kernel_rfl) (hv := by rfl)) ?_ | (refine Lb ?_; intro _) | refine Lif rfl rfl rfl (fun hc => ?_) (fun hc => ?_) | refine Lne rfl rfl (fun hc => ?_) (fun hc => ?_)) | (refine isS ?_; first | refine S ?_ | refine qs_skip rfl rfl ?_ | refine S (h := q_lb (hx := rfl) (hm := (by first | exact .head _ | exact .tail _ (.head _) | exact .tail _ (.tail _ (.head _)) | exact .tail _ (.tail _ (.tail _ (.head _))) | exact .tail _ (.tail _ (.tail _ (.tail _ (.head _)))))) (ht := by kernel_rfl) (hv := by rfl)) ?_ | refine Sif rfl rfl rfl (fun hc => ?_) (fun hc => ?_) | refine Sne rfl rfl (fun hc => ?_) (fun hc => ?_)))
  refine g_wh (α := Nat) (fun k => k ≤ cells.length ∧ ∀ j, j < k → (0 ≤ cells.getD j 0 ∧ cells.getD j 0 ≤ W * H - 1) ∧ ¬ bits .and .i64 (ishr .i64 (setD cells j) (cells.getD j 0)) 1 = 1)
    (fun k => [(1, .slice B cells.length c'), (2, .pointer (some ⟨_, 0, none⟩)), (5, .int .i64 (setD cells k)), (6, .int .i64 k)]) (fun _ => _) (fun k => cells.length - k) 0 ⟨by omega, by omega⟩ ?_
  rintro k ⟨hk, hinv⟩ IH
  have ec : cells.getD k 0 = cells.getD (k : Int).toNat 0 := by rw [Int.toNat_natCast]
  repeat' (first | refine g_seq ?_ | refine g_list ?_ | refine gD ?_ | (refine isAS ?_; first | refine a_q ?_ | refine a_f1 ?_ | refine a_f2 ?_ | refine a_nil ?_) | (refine isAF ?_; first | refine afin1 ?_ | refine afin2 ?_) | refine qs_nil ?_ | refine ls_nil ?_ | refine g_block ?_ | refine g_then rfl ?_ | refine g_else rfl ?_ | refine g_skip ?_ | refine g_inBlock ?_ | refine g_exit rfl ?_ | (refine isL ?_; first | refine L ?_ | refine ls_skip rfl rfl ?_ | (refine isF 61 ?_; refine Lcb (h := by exact (fun w _ => l01In_c rfl w)) (kt := fun hc => ?_) (kf := fun hc => ?_) <;> first | replace hc := of_decide_eq_true hc | replace hc := of_decide_eq_false hc) | refine L (h := q_ix (ri hb) rfl rfl (by kernel_rfl) rfl (by omega) (by omega)) ?_ | refine L (h := q_leI (ri hb) rfl (by kernel_rfl) (by omega) (by omega)) ?_ | refine L (h := q_lb (hx := rfl) (hm := (by first | exact .head _ | exact .tail _ (.head _) | exact .tail _ (.tail _ (.head _)) | exact .tail _ (.tail _ (.tail _ (.head _))) | exact .tail _ (.tail _ (.tail _ (.tail _ (.head _)))))) (ht := by kernel_rfl) (hv := by rfl)) ?_ | (refine Lb ?_; intro _) | refine Lif rfl rfl rfl (fun hc => ?_) (fun hc => ?_) | refine Lne rfl rfl (fun hc => ?_) (fun hc => ?_)) | (refine isS ?_; first | refine S ?_ | refine qs_skip rfl rfl ?_ | (refine isFS 61 ?_; refine Scb (h := by exact (fun w _ => l01In_c rfl w)) (kt := fun hc => ?_) (kf := fun hc => ?_) <;> first | replace hc := of_decide_eq_true hc | replace hc := of_decide_eq_false hc) | refine S (h := q_ix (ri hb) rfl rfl (by kernel_rfl) rfl (by omega) (by omega)) ?_ | refine S (h := q_leI (ri hb) rfl (by kernel_rfl) (by omega) (by omega)) ?_ | refine S (h := q_lb (hx := rfl) (hm := (by first | exact .head _ | exact .tail _ (.head _) | exact .tail _ (.tail _ (.head _)) | exact .tail _ (.tail _ (.tail _ (.head _))) | exact .tail _ (.tail _ (.tail _ (.tail _ (.head _)))))) (ht := by kernel_rfl) (hv := by rfl)) ?_ | refine Sif rfl rfl rfl (fun hc => ?_) (fun hc => ?_) | refine Sne rfl rfl (fun hc => ?_) (fun hc => ?_)))
  all_goals first
    | (refine g_go (IH (k+1) ⟨by omega, fun j hj => ?_⟩ (by omega))
       rcases Nat.lt_or_ge j k with h | h
       · exact hinv j h
       · obtain rfl : j = k := by omega
         rw [ec]; omega)
    | (refine g_r1 Try.func62 ?_
       rw [← hr, difS, decide_eq_false]
       intro hh
       have h3 := hh k (by omega)
       rw [ec] at h3
       omega)
    | (refine g_r1 Try.func62 ?_
       rw [← hr, difS, decide_eq_true]
       exact fun j hj => hinv j (by omega))
def seaS (W H : Int) (xs : List Int) : Bool := decide (1 ≤ W ∧ W ≤ 5 ∧ 1 ≤ H ∧ H ≤ 5 ∧ 1 ≤ xs.length ∧ xs.length ≤ 3 ∧ ∀ j, j < xs.length → 1 ≤ xs.getD j 0 ∧ xs.getD j 0 ≤ 5 ∧ (0 < j → xs.getD j 0 ≤ xs.getD (j - 1) 0))
def codeS (W H : Int) (ships fleet : List Int) : Int := if seaS W H ships then (if flS W H ships fleet then 0 else 2) else 1
theorem l09Code_c {A B : Option Addr} {m m' c c' : Nat} {W H : Int} {ships fleet : List Int} {w : World} (ha : RdA kI w A ships) (hm : m = ships.length) (hl0 : ships.length ≤ 9223372036854775807) (hb : RdA kI w B fleet) (hm' : m' = fleet.length) (hl : fleet.length ≤ 1099511627776)
    {r : Int} (hr : codeS W H ships fleet = r) :
    RetV Try.prog 34 [.agg #[.int .i64 W, .int .i64 H, .slice A m c], .slice B m' c'] w (.int .i64 r) := by
  subst hr
  unfold codeS
  by_cases hs : seaS W H ships = true
  · have h := of_decide_eq_true hs
    have hsh : ships.length ≤ 3 ∧ ∀ j, j < ships.length → 1 ≤ ships.getD j 0 ∧ ships.getD j 0 ≤ 5 := ⟨by omega, fun j hj => ⟨(h.2.2.2.2.2.2 j hj).1, (h.2.2.2.2.2.2 j hj).2.1⟩⟩
    rw [if_pos hs]
    refine enter Try.func34 rfl rfl rfl ?_
    repeat' (first | refine g_seq ?_ | refine g_list ?_ | refine gD ?_ | (refine isAS ?_; first | refine a_q ?_ | refine a_f1 ?_ | refine a_f2 ?_ | refine a_nil ?_) | (refine isAF ?_; first | refine afin1 ?_ | refine afin2 ?_) | refine qs_nil ?_ | refine ls_nil ?_ | refine g_block ?_ | refine g_then rfl ?_ | refine g_else rfl ?_ | refine g_skip ?_ | refine g_inBlock ?_ | refine g_exit rfl ?_ | (refine isL ?_; first | refine L ?_ | refine ls_skip rfl rfl ?_ | (refine isF 59 ?_; refine Lc (h := by exact (fun w hw => l09Is_c (ri ha w hw) hm hl0 hs)) (k' := ?_)) | (refine isF 60 ?_; refine Lcb (h := by exact (fun w hw => l09Fleet_c (ri ha w hw) hm (ri hb w hw) hm' hl h.1 h.2.1 h.2.2.1 h.2.2.2.1 hsh rfl)) (kt := fun hc => ?_) (kf := fun hc => ?_)) | refine L (h := q_lbA (by first | exact .head _ | exact .tail _ (.head _)) rfl (by kernel_rfl)) ?_ | refine L (h := q_lb (hx := rfl) (hm := (by first | exact .head _ | exact .tail _ (.head _) | exact .tail _ (.tail _ (.head _)) | exact .tail _ (.tail _ (.tail _ (.head _))) | exact .tail _ (.tail _ (.tail _ (.tail _ (.head _)))))) (ht := by kernel_rfl) (hv := by rfl)) ?_ | (refine Lb ?_; intro _) | refine Lif rfl rfl rfl (fun hc => ?_) (fun hc => ?_) | refine Lne rfl rfl (fun hc => ?_) (fun hc => ?_)) | (refine isS ?_; first | refine S ?_ | refine qs_skip rfl rfl ?_ | (refine isFS 59 ?_; refine Sc (h := by exact (fun w hw => l09Is_c (ri ha w hw) hm hl0 hs)) (k' := ?_)) | (refine isFS 60 ?_; refine Scb (h := by exact (fun w hw => l09Fleet_c (ri ha w hw) hm (ri hb w hw) hm' hl h.1 h.2.1 h.2.2.1 h.2.2.2.1 hsh rfl)) (kt := fun hc => ?_) (kf := fun hc => ?_)) | refine S (h := q_lbA (by first | exact .head _ | exact .tail _ (.head _)) rfl (by kernel_rfl)) ?_ | refine S (h := q_lb (hx := rfl) (hm := (by first | exact .head _ | exact .tail _ (.head _) | exact .tail _ (.tail _ (.head _)) | exact .tail _ (.tail _ (.tail _ (.head _))) | exact .tail _ (.tail _ (.tail _ (.tail _ (.head _)))))) (ht := by kernel_rfl) (hv := by rfl)) ?_ | refine Sif rfl rfl rfl (fun hc => ?_) (fun hc => ?_) | refine Sne rfl rfl (fun hc => ?_) (fun hc => ?_)))
    all_goals (refine g_r1 Try.func34 ?_; rw [hc]; rfl)
  · have hs' : seaS W H ships = false := by simpa using hs
    rw [if_neg hs]
    refine enter Try.func34 rfl rfl rfl ?_
    repeat' (first | refine g_seq ?_ | refine g_list ?_ | refine gD ?_ | (refine isAS ?_; first | refine a_q ?_ | refine a_f1 ?_ | refine a_f2 ?_ | refine a_nil ?_) | (refine isAF ?_; first | refine afin1 ?_ | refine afin2 ?_) | refine qs_nil ?_ | refine ls_nil ?_ | refine g_block ?_ | refine g_then rfl ?_ | refine g_else rfl ?_ | refine g_skip ?_ | refine g_inBlock ?_ | refine g_exit rfl ?_ | (refine isL ?_; first | refine L ?_ | refine ls_skip rfl rfl ?_ | (refine isF 59 ?_; refine Lc (h := by exact (fun w hw => l09Is_c (ri ha w hw) hm hl0 hs')) (k' := ?_)) | refine L (h := q_lbA (by first | exact .head _ | exact .tail _ (.head _)) rfl (by kernel_rfl)) ?_ | refine L (h := q_lb (hx := rfl) (hm := (by first | exact .head _ | exact .tail _ (.head _) | exact .tail _ (.tail _ (.head _)) | exact .tail _ (.tail _ (.tail _ (.head _))) | exact .tail _ (.tail _ (.tail _ (.tail _ (.head _)))))) (ht := by kernel_rfl) (hv := by rfl)) ?_ | (refine Lb ?_; intro _) | refine Lif rfl rfl rfl (fun hc => ?_) (fun hc => ?_) | refine Lne rfl rfl (fun hc => ?_) (fun hc => ?_)) | (refine isS ?_; first | refine S ?_ | refine qs_skip rfl rfl ?_ | (refine isFS 59 ?_; refine Sc (h := by exact (fun w hw => l09Is_c (ri ha w hw) hm hl0 hs')) (k' := ?_)) | refine S (h := q_lbA (by first | exact .head _ | exact .tail _ (.head _)) rfl (by kernel_rfl)) ?_ | refine S (h := q_lb (hx := rfl) (hm := (by first | exact .head _ | exact .tail _ (.head _) | exact .tail _ (.tail _ (.head _)) | exact .tail _ (.tail _ (.tail _ (.head _))) | exact .tail _ (.tail _ (.tail _ (.tail _ (.head _)))))) (ht := by kernel_rfl) (hv := by rfl)) ?_ | refine Sif rfl rfl rfl (fun hc => ?_) (fun hc => ?_) | refine Sne rfl rfl (fun hc => ?_) (fun hc => ?_)))
    all_goals exact g_r1 Try.func34 rfl
end Go.Proofs.Ytcjokckidpophaa
