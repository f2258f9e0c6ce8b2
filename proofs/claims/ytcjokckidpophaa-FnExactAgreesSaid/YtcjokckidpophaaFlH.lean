/- The fleet: the program's placements, the walk. -/
import Derived.Test.YtcjokckidpophaaFlG
set_option linter.all false
namespace Go.Proofs.Ytcjokckidpophaa
open Go.RowKit Go.G
set_option maxHeartbeats 4000000
def maskD (c s : Int) : Nat → Int
  | 0 => 0
  | k + 1 => bits .or .i64 (maskD c s k) (ishl .i64 1 (c + k * s))
/-- the placement from a cell on in one of the two directions -/
def dirA (W H n c : Int) : List Int := if W ≤ c % W + (n - 1) * 1 ∨ H ≤ c / W + (n - 1) * 0 then [] else [maskD c (1 + 0 * W) n.toNat]
def dirB (W H n c : Int) : List Int := if W ≤ c % W + (n - 1) * 0 ∨ H ≤ c / W + (n - 1) * 1 then [] else [maskD c (0 + 1 * W) n.toNat]
def dirOne (W H n c : Int) : Nat → List Int
  | 0 => dirA W H n c
  | _ + 1 => dirB W H n c
def rawD (W H n c : Int) (acc : List Int) : Nat → List Int
  | 0 => acc
  | d + 1 => rawD W H n c acc d ++ dirOne W H n c d
def rawI (W H n : Int) : Nat → List Int
  | 0 => []
  | k + 1 => rawD W H n k (rawI W H n k) 2
theorem dirOne_len (W H n c : Int) (d : Nat) : (dirOne W H n c d).length ≤ 1 := by
  cases d
  · show (dirA W H n c).length ≤ 1
    unfold dirA; split <;> simp
  · show (dirB W H n c).length ≤ 1
    unfold dirB; split <;> simp
theorem rawD_len (W H n c : Int) (acc : List Int) : ∀ d, (rawD W H n c acc d).length ≤ acc.length + d
  | 0 => by simp [rawD]
  | d + 1 => by
    have h1 := rawD_len W H n c acc d
    have h2 := dirOne_len W H n c d
    rw [rawD, List.length_append]; omega
theorem rawI_len (W H n : Int) : ∀ k, (rawI W H n k).length ≤ 2 * k
  | 0 => by simp [rawI]
  | k + 1 => by
    have h1 := rawI_len W H n k
    have h2 := rawD_len W H n k (rawI W H n k) 2
    rw [rawI]; omega
theorem placements_c {A0 : Option Addr} {m0 c0 : Nat} {W H n : Int} (w : World) (hW0 : 1 ≤ W) (hW : W ≤ 5) (hH0 : 1 ≤ H) (hH : H ≤ 5) (hn0 : 1 ≤ n) (hn : n ≤ 5) {r : List Int}
    (hr : ddp ((rawI W H n (W * H).toNat).mergeSort fun x y => decide (x ≤ y)) ((rawI W H n (W * H).toNat).mergeSort fun x y => decide (x ≤ y)).length = r) :
    Ret Try.prog 66 [.agg #[.int .i64 W, .int .i64 H, .slice A0 m0 c0], .int .i64 n] w (Own r) := by
  have hWH := mul_bounds (a := W) (b := H) (by omega) (by omega) (by omega) (by omega)
  refine enter Try.func66 rfl rfl rfl ?_
  repeat' (first | refine g_seq ?_ | refine g_list ?_ | refine gD ?_ | (refine isAS ?_; first | refine a_q ?_ | refine a_f1 ?_ | refine a_f2 ?_ | refine a_nil ?_) | (refine isAF ?_; first | refine afin1 ?_ | refine afin2 ?_) | refine qs_nil ?_ | refine ls_nil ?_ | refine g_block ?_ | refine g_then rfl ?_ | refine g_else rfl ?_ | refine g_skip ?_ | refine g_inBlock ?_ | refine g_exit rfl ?_ | (refine isL ?_; first | refine L ?_ | refine ls_skip rfl rfl ?_ | (refine isF 72 ?_; refine Lc (h := by exact (fun w _ => cells_c w hW0 hW hH0 hH)) (k' := ?_)) | refine L (h := q_lbA (by first | exact .head _ | exact .tail _ (.head _)) rfl (by kernel_rfl)) ?_ | refine L (h := q_lb (hx := rfl) (hm := (by first | exact .head _ | exact .tail _ (.head _) | exact .tail _ (.tail _ (.head _)) | exact .tail _ (.tail _ (.tail _ (.head _))) | exact .tail _ (.tail _ (.tail _ (.tail _ (.head _)))))) (ht := by kernel_rfl) (hv := by rfl)) ?_ | (refine Lb ?_; intro _) | (refine Lsn eI 2 8 ?_; intro _) | refine Lif rfl rfl rfl (fun hc => ?_) (fun hc => ?_) | refine Lne rfl rfl (fun hc => ?_) (fun hc => ?_)) | (refine isS ?_; first | refine S ?_ | refine qs_skip rfl rfl ?_ | (refine isFS 72 ?_; refine Sc (h := by exact (fun w _ => cells_c w hW0 hW hH0 hH)) (k' := ?_)) | refine S (h := q_lbA (by first | exact .head _ | exact .tail _ (.head _)) rfl (by kernel_rfl)) ?_ | refine S (h := q_lb (hx := rfl) (hm := (by first | exact .head _ | exact .tail _ (.head _) | exact .tail _ (.tail _ (.head _)) | exact .tail _ (.tail _ (.tail _ (.head _))) | exact .tail _ (.tail _ (.tail _ (.tail _ (.head _)))))) (ht := by kernel_rfl) (hv := by rfl)) ?_ | refine Sif rfl rfl rfl (fun hc => ?_) (fun hc => ?_) | refine Sne rfl rfl (fun hc => ?_) (fun hc => ?_)))
  refine g_wh (α := Nat × Option Addr × Nat) (fun s => s.1 ≤ (W * H).toNat ∧ (rawI W H n s.1).length ≤ s.2.2)
    (fun s => [(1, .int .i64 n), (2, .pointer (some ⟨_, 0, none⟩)), (5, .slice s.2.1 (rawI W H n s.1).length s.2.2), (15, .int .i64 (W * H)), (16, .int .i64 s.1)])
    (fun s => [rI s.2.1 s.2.2 (rawI W H n s.1), blk _ [.int .i64 W, .int .i64 H, .slice A0 m0 c0] 30]) (fun s => (W * H).toNat - s.1) (0, _, _) ⟨by omega, by simp [rawI]⟩ ?_
  rintro ⟨k, A, c⟩ ⟨hk, hcap⟩ IH
  dsimp only at hk hcap IH ⊢
  have hlk := rawI_len W H n k
  have hm1 := Int.emod_nonneg (k : Int) (show W ≠ 0 by omega)
  have hm2 := Int.emod_lt_of_pos (k : Int) (show 0 < W by omega)
  have hd1 : 0 ≤ (k : Int) / W := Int.ediv_nonneg (by omega) (by omega)
  have hd2 : (k : Int) / W ≤ k := Int.ediv_le_self _ (by omega)
  repeat' (first | refine g_seq ?_ | refine g_list ?_ | refine gD ?_ | (refine isAS ?_; first | refine a_q ?_ | refine a_f1 ?_ | refine a_f2 ?_ | refine a_nil ?_) | (refine isAF ?_; first | refine afin1 ?_ | refine afin2 ?_) | refine qs_nil ?_ | refine ls_nil ?_ | refine g_block ?_ | refine g_then rfl ?_ | refine g_else rfl ?_ | refine g_skip ?_ | refine g_inBlock ?_ | refine g_exit rfl ?_ | (refine isL ?_; first | refine L ?_ | refine ls_skip rfl rfl ?_ | refine L (h := q_build 94 [.int .i64 0, .int .i64 0] [(0, 1), (1, 1)] rfl (by kernel_rfl) rfl) ?_ | refine L (h := q_lb (hx := rfl) (hm := (by first | exact .head _ | exact .tail _ (.head _) | exact .tail _ (.tail _ (.head _)) | exact .tail _ (.tail _ (.tail _ (.head _))) | exact .tail _ (.tail _ (.tail _ (.tail _ (.head _)))))) (ht := by kernel_rfl) (hv := by rfl)) ?_ | (refine Lb ?_; intro _) | (refine Lsl 2 94 16 ?_; intro _) | refine Lif rfl rfl rfl (fun hc => ?_) (fun hc => ?_) | refine Lne rfl rfl (fun hc => ?_) (fun hc => ?_)) | (refine isS ?_; first | refine S ?_ | refine qs_skip rfl rfl ?_ | refine S (h := q_build 94 [.int .i64 0, .int .i64 0] [(0, 1), (1, 1)] rfl (by kernel_rfl) rfl) ?_ | refine S (h := q_lb (hx := rfl) (hm := (by first | exact .head _ | exact .tail _ (.head _) | exact .tail _ (.tail _ (.head _)) | exact .tail _ (.tail _ (.tail _ (.head _))) | exact .tail _ (.tail _ (.tail _ (.tail _ (.head _)))))) (ht := by kernel_rfl) (hv := by rfl)) ?_ | refine Sif rfl rfl rfl (fun hc => ?_) (fun hc => ?_) | refine Sne rfl rfl (fun hc => ?_) (fun hc => ?_)))
  · refine g_cls ?_ fun w h => h.perm (List.Perm.swap _ _ _)
    refine g_wh (α := Nat × Option Addr × Nat) (fun s => s.1 ≤ 2 ∧ (rawD W H n k (rawI W H n k) s.1).length ≤ s.2.2)
      (fun s => [(1, .int .i64 n), (2, .pointer (some ⟨_, 0, none⟩)), (5, .slice s.2.1 (rawD W H n k (rawI W H n k) s.1).length s.2.2), (6, .int .i64 k), (7, .int .i64 (k % W)), (8, .int .i64 (k / W)), (15, .int .i64 (W * H)), (16, .int .i64 k), (29, .slice (some ⟨_, 0, none⟩) 2 2), (30, .int .i64 2), (31, .int .i64 s.1)])
      (fun s => [rI s.2.1 s.2.2 (rawD W H n k (rawI W H n k) s.1), rowE (ePair eI eI) (some ⟨_, 0, none⟩) 2 94 [(1, 0), (0, 1)], blk _ [.int .i64 W, .int .i64 H, .slice A0 m0 c0] 30]) (fun s => 2 - s.1) (0, _, _) ⟨by omega, hcap⟩ ?_
    clear hcap
    rintro ⟨d, A, c⟩ ⟨hd, hcap⟩ IHd
    dsimp only at hd hcap IHd ⊢
    have hld := rawD_len W H n k (rawI W H n k) d
    obtain rfl | rfl | rfl : d = 0 ∨ d = 1 ∨ d = 2 := by omega
    · repeat' (first | refine g_seq ?_ | refine g_list ?_ | refine gD ?_ | (refine isAS ?_; first | refine a_q ?_ | refine a_f1 ?_ | refine a_f2 ?_ | refine a_nil ?_) | (refine isAF ?_; first | refine afin1 ?_ | refine afin2 ?_) | refine qs_nil ?_ | refine ls_nil ?_ | refine g_block ?_ | refine g_then rfl ?_ | refine g_else rfl ?_ | refine g_skip ?_ | refine g_inBlock ?_ | refine g_exit rfl ?_ | (refine isL ?_; first | refine L ?_ | refine ls_skip rfl rfl ?_ | refine L (h := q_ix (kd := Kd.of (ePair eI eI)) (xs := [(1, 0), (0, 1)]) (ro (.tail _ (.head _))) rfl rfl (by kernel_rfl) rfl (by omega) (by decide)) ?_ | refine L (h := (q_as (q_leA (e := ePair eI eI) (xs := [(1, 0), (0, 1)]) (ro (.tail _ (.head _))) rfl (by kernel_rfl) (by omega) (by decide)) (rfl : _ = Value.agg #[.int .i64 1, .int .i64 0]))) ?_ | refine L (h := q_ixA 2 1 rfl rfl (by kernel_rfl) (by omega) (by omega)) ?_ | refine L (h := q_lb (hx := rfl) (hm := (by first | exact .head _ | exact .tail _ (.head _) | exact .tail _ (.tail _ (.head _)) | exact .tail _ (.tail _ (.tail _ (.head _))) | exact .tail _ (.tail _ (.tail _ (.tail _ (.head _)))))) (ht := by kernel_rfl) (hv := by rfl)) ?_ | (refine Lb ?_; intro _) | (refine La (.agg #[.int .i64 0, .int .i64 0]) ?_; intro _) | (refine Lst 0 ?_) | refine Lif rfl rfl rfl (fun hc => ?_) (fun hc => ?_) | refine Lne rfl rfl (fun hc => ?_) (fun hc => ?_)) | (refine isS ?_; first | refine S ?_ | refine qs_skip rfl rfl ?_ | refine S (h := q_ix (kd := Kd.of (ePair eI eI)) (xs := [(1, 0), (0, 1)]) (ro (.tail _ (.head _))) rfl rfl (by kernel_rfl) rfl (by omega) (by decide)) ?_ | refine S (h := (q_as (q_leA (e := ePair eI eI) (xs := [(1, 0), (0, 1)]) (ro (.tail _ (.head _))) rfl (by kernel_rfl) (by omega) (by decide)) (rfl : _ = Value.agg #[.int .i64 1, .int .i64 0]))) ?_ | refine S (h := q_ixA 2 1 rfl rfl (by kernel_rfl) (by omega) (by omega)) ?_ | refine S (h := q_lb (hx := rfl) (hm := (by first | exact .head _ | exact .tail _ (.head _) | exact .tail _ (.tail _ (.head _)) | exact .tail _ (.tail _ (.tail _ (.head _))) | exact .tail _ (.tail _ (.tail _ (.tail _ (.head _)))))) (ht := by kernel_rfl) (hv := by rfl)) ?_ | refine Sif rfl rfl rfl (fun hc => ?_) (fun hc => ?_) | refine Sne rfl rfl (fun hc => ?_) (fun hc => ?_)))
      all_goals try (
        have key : rawD W H n k (rawI W H n k) 1 = rawD W H n k (rawI W H n k) 0 := by
          show _ ++ dirA W H n k = _
          rw [dirA, if_pos (by omega), List.append_nil]
        have IH' := IHd (1, A, c) ⟨by omega, by rw [key]; exact hcap⟩ (by dsimp only; omega)
        dsimp only at IH'
        rw [key] at IH'
        exact g_go IH')
      · refine g_wh (α := Nat) (fun i => i ≤ n.toNat) (fun i => [(1, .int .i64 n), (2, .pointer (some ⟨_, 0, none⟩)), (5, .slice A (rawD W H n k (rawI W H n k) 0).length c), (6, .int .i64 k), (7, .int .i64 (k % W)), (8, .int .i64 (k / W)), (15, .int .i64 (W * H)), (16, .int .i64 k), (29, .slice (some ⟨_, 0, none⟩) 2 2), (30, .int .i64 2), (31, .int .i64 ((0 : Nat) : Int)), (10, .pointer (some ⟨_, 0, none⟩)), (11, .int .i64 (maskD k (1 + 0 * W) i)), (57, .int .i64 n), (58, .int .i64 i)]) (fun i => _) (fun i => n.toNat - i) 0 (by omega) ?_
        intro i hi IHi
        have hmi := mul_bounds (a := (i : Int)) (b := 1 + 0 * W) (by omega) (by omega) (by omega) (by omega)
        repeat' (first | refine g_seq ?_ | refine g_list ?_ | refine gD ?_ | (refine isAS ?_; first | refine a_q ?_ | refine a_f1 ?_ | refine a_f2 ?_ | refine a_nil ?_) | (refine isAF ?_; first | refine afin1 ?_ | refine afin2 ?_) | refine qs_nil ?_ | refine ls_nil ?_ | refine g_block ?_ | refine g_then rfl ?_ | refine g_else rfl ?_ | refine g_skip ?_ | refine g_inBlock ?_ | refine g_exit rfl ?_ | (refine isL ?_; first | refine L ?_ | refine ls_skip rfl rfl ?_ | refine L (h := q_ixA 2 1 rfl rfl (by kernel_rfl) (by omega) (by omega)) ?_ | refine L (h := q_lb (hx := rfl) (hm := (by first | exact .head _ | exact .tail _ (.head _) | exact .tail _ (.tail _ (.head _)) | exact .tail _ (.tail _ (.tail _ (.head _))) | exact .tail _ (.tail _ (.tail _ (.tail _ (.head _)))))) (ht := by kernel_rfl) (hv := by rfl)) ?_ | (refine Lb ?_; intro _) | (refine Lsl 1 2 8 ?_; intro _) | (refine Lp1 1 eI 8 (maskD k (1 + 0 * W) i) ?_; intro A1 c1 hc1) | refine Lif rfl rfl rfl (fun hc => ?_) (fun hc => ?_) | refine Lne rfl rfl (fun hc => ?_) (fun hc => ?_)) | (refine isS ?_; first | refine S ?_ | refine qs_skip rfl rfl ?_ | refine S (h := q_ixA 2 1 rfl rfl (by kernel_rfl) (by omega) (by omega)) ?_ | refine S (h := q_lb (hx := rfl) (hm := (by first | exact .head _ | exact .tail _ (.head _) | exact .tail _ (.tail _ (.head _)) | exact .tail _ (.tail _ (.tail _ (.head _))) | exact .tail _ (.tail _ (.tail _ (.tail _ (.head _)))))) (ht := by kernel_rfl) (hv := by rfl)) ?_ | refine Sif rfl rfl rfl (fun hc => ?_) (fun hc => ?_) | refine Sne rfl rfl (fun hc => ?_) (fun hc => ?_)))
        · exact g_go (IHi (i + 1) (by omega) (by omega))
        · obtain rfl : i = n.toNat := by omega
          have key : rawD W H n k (rawI W H n k) 1 = rawD W H n k (rawI W H n k) 0 ++ [maskD k (1 + 0 * W) n.toNat] := by
            show _ ++ dirA W H n k = _
            rw [dirA, if_neg (by omega)]
          have IH' := IHd (1, A1, c1) ⟨by omega, by rw [key]; exact hc1⟩ (by dsimp only; omega)
          dsimp only at IH'
          rw [key] at IH'
          exact g_go IH'
    · repeat' (first | refine g_seq ?_ | refine g_list ?_ | refine gD ?_ | (refine isAS ?_; first | refine a_q ?_ | refine a_f1 ?_ | refine a_f2 ?_ | refine a_nil ?_) | (refine isAF ?_; first | refine afin1 ?_ | refine afin2 ?_) | refine qs_nil ?_ | refine ls_nil ?_ | refine g_block ?_ | refine g_then rfl ?_ | refine g_else rfl ?_ | refine g_skip ?_ | refine g_inBlock ?_ | refine g_exit rfl ?_ | (refine isL ?_; first | refine L ?_ | refine ls_skip rfl rfl ?_ | refine L (h := q_ix (kd := Kd.of (ePair eI eI)) (xs := [(1, 0), (0, 1)]) (ro (.tail _ (.head _))) rfl rfl (by kernel_rfl) rfl (by omega) (by decide)) ?_ | refine L (h := (q_as (q_leA (e := ePair eI eI) (xs := [(1, 0), (0, 1)]) (ro (.tail _ (.head _))) rfl (by kernel_rfl) (by omega) (by decide)) (rfl : _ = Value.agg #[.int .i64 0, .int .i64 1]))) ?_ | refine L (h := q_ixA 2 1 rfl rfl (by kernel_rfl) (by omega) (by omega)) ?_ | refine L (h := q_lb (hx := rfl) (hm := (by first | exact .head _ | exact .tail _ (.head _) | exact .tail _ (.tail _ (.head _)) | exact .tail _ (.tail _ (.tail _ (.head _))) | exact .tail _ (.tail _ (.tail _ (.tail _ (.head _)))))) (ht := by kernel_rfl) (hv := by rfl)) ?_ | (refine Lb ?_; intro _) | (refine La (.agg #[.int .i64 0, .int .i64 0]) ?_; intro _) | (refine Lst 0 ?_) | refine Lif rfl rfl rfl (fun hc => ?_) (fun hc => ?_) | refine Lne rfl rfl (fun hc => ?_) (fun hc => ?_)) | (refine isS ?_; first | refine S ?_ | refine qs_skip rfl rfl ?_ | refine S (h := q_ix (kd := Kd.of (ePair eI eI)) (xs := [(1, 0), (0, 1)]) (ro (.tail _ (.head _))) rfl rfl (by kernel_rfl) rfl (by omega) (by decide)) ?_ | refine S (h := (q_as (q_leA (e := ePair eI eI) (xs := [(1, 0), (0, 1)]) (ro (.tail _ (.head _))) rfl (by kernel_rfl) (by omega) (by decide)) (rfl : _ = Value.agg #[.int .i64 0, .int .i64 1]))) ?_ | refine S (h := q_ixA 2 1 rfl rfl (by kernel_rfl) (by omega) (by omega)) ?_ | refine S (h := q_lb (hx := rfl) (hm := (by first | exact .head _ | exact .tail _ (.head _) | exact .tail _ (.tail _ (.head _)) | exact .tail _ (.tail _ (.tail _ (.head _))) | exact .tail _ (.tail _ (.tail _ (.tail _ (.head _)))))) (ht := by kernel_rfl) (hv := by rfl)) ?_ | refine Sif rfl rfl rfl (fun hc => ?_) (fun hc => ?_) | refine Sne rfl rfl (fun hc => ?_) (fun hc => ?_)))
      all_goals try (
        have key : rawD W H n k (rawI W H n k) 2 = rawD W H n k (rawI W H n k) 1 := by
          show _ ++ dirB W H n k = _
          rw [dirB, if_pos (by omega), List.append_nil]
        have IH' := IHd (2, A, c) ⟨by omega, by rw [key]; exact hcap⟩ (by dsimp only; omega)
        dsimp only at IH'
        rw [key] at IH'
        exact g_go IH')
      · refine g_wh (α := Nat) (fun i => i ≤ n.toNat) (fun i => [(1, .int .i64 n), (2, .pointer (some ⟨_, 0, none⟩)), (5, .slice A (rawD W H n k (rawI W H n k) 1).length c), (6, .int .i64 k), (7, .int .i64 (k % W)), (8, .int .i64 (k / W)), (15, .int .i64 (W * H)), (16, .int .i64 k), (29, .slice (some ⟨_, 0, none⟩) 2 2), (30, .int .i64 2), (31, .int .i64 ((1 : Nat) : Int)), (10, .pointer (some ⟨_, 0, none⟩)), (11, .int .i64 (maskD k (0 + 1 * W) i)), (57, .int .i64 n), (58, .int .i64 i)]) (fun i => _) (fun i => n.toNat - i) 0 (by omega) ?_
        intro i hi IHi
        have hmi := mul_bounds (a := (i : Int)) (b := 0 + 1 * W) (by omega) (by omega) (by omega) (by omega)
        repeat' (first | refine g_seq ?_ | refine g_list ?_ | refine gD ?_ | (refine isAS ?_; first | refine a_q ?_ | refine a_f1 ?_ | refine a_f2 ?_ | refine a_nil ?_) | (refine isAF ?_; first | refine afin1 ?_ | refine afin2 ?_) | refine qs_nil ?_ | refine ls_nil ?_ | refine g_block ?_ | refine g_then rfl ?_ | refine g_else rfl ?_ | refine g_skip ?_ | refine g_inBlock ?_ | refine g_exit rfl ?_ | (refine isL ?_; first | refine L ?_ | refine ls_skip rfl rfl ?_ | refine L (h := q_ixA 2 1 rfl rfl (by kernel_rfl) (by omega) (by omega)) ?_ | refine L (h := q_lb (hx := rfl) (hm := (by first | exact .head _ | exact .tail _ (.head _) | exact .tail _ (.tail _ (.head _)) | exact .tail _ (.tail _ (.tail _ (.head _))) | exact .tail _ (.tail _ (.tail _ (.tail _ (.head _)))))) (ht := by kernel_rfl) (hv := by rfl)) ?_ | (refine Lb ?_; intro _) | (refine Lsl 1 2 8 ?_; intro _) | (refine Lp1 1 eI 8 (maskD k (0 + 1 * W) i) ?_; intro A1 c1 hc1) | refine Lif rfl rfl rfl (fun hc => ?_) (fun hc => ?_) | refine Lne rfl rfl (fun hc => ?_) (fun hc => ?_)) | (refine isS ?_; first | refine S ?_ | refine qs_skip rfl rfl ?_ | refine S (h := q_ixA 2 1 rfl rfl (by kernel_rfl) (by omega) (by omega)) ?_ | refine S (h := q_lb (hx := rfl) (hm := (by first | exact .head _ | exact .tail _ (.head _) | exact .tail _ (.tail _ (.head _)) | exact .tail _ (.tail _ (.tail _ (.head _))) | exact .tail _ (.tail _ (.tail _ (.tail _ (.head _)))))) (ht := by kernel_rfl) (hv := by rfl)) ?_ | refine Sif rfl rfl rfl (fun hc => ?_) (fun hc => ?_) | refine Sne rfl rfl (fun hc => ?_) (fun hc => ?_)))
        · exact g_go (IHi (i + 1) (by omega) (by omega))
        · obtain rfl : i = n.toNat := by omega
          have key : rawD W H n k (rawI W H n k) 2 = rawD W H n k (rawI W H n k) 1 ++ [maskD k (0 + 1 * W) n.toNat] := by
            show _ ++ dirB W H n k = _
            rw [dirB, if_neg (by omega)]
          have IH' := IHd (2, A1, c1) ⟨by omega, by rw [key]; exact hc1⟩ (by dsimp only; omega)
          dsimp only at IH'
          rw [key] at IH'
          exact g_go IH'
    · repeat' (first | refine g_seq ?_ | refine g_list ?_ | refine gD ?_ | (refine isAS ?_; first | refine a_q ?_ | refine a_f1 ?_ | refine a_f2 ?_ | refine a_nil ?_) | (refine isAF ?_; first | refine afin1 ?_ | refine afin2 ?_) | refine qs_nil ?_ | refine ls_nil ?_ | refine g_block ?_ | refine g_then rfl ?_ | refine g_else rfl ?_ | refine g_skip ?_ | refine g_inBlock ?_ | refine g_exit rfl ?_ | (refine isL ?_; first | refine L ?_ | refine ls_skip rfl rfl ?_ | refine L (h := q_lb (hx := rfl) (hm := (by first | exact .head _ | exact .tail _ (.head _) | exact .tail _ (.tail _ (.head _)) | exact .tail _ (.tail _ (.tail _ (.head _))) | exact .tail _ (.tail _ (.tail _ (.tail _ (.head _)))))) (ht := by kernel_rfl) (hv := by rfl)) ?_ | (refine Lb ?_; intro _) | refine Lif rfl rfl rfl (fun hc => ?_) (fun hc => ?_) | refine Lne rfl rfl (fun hc => ?_) (fun hc => ?_)) | (refine isS ?_; first | refine S ?_ | refine qs_skip rfl rfl ?_ | refine S (h := q_lb (hx := rfl) (hm := (by first | exact .head _ | exact .tail _ (.head _) | exact .tail _ (.tail _ (.head _)) | exact .tail _ (.tail _ (.tail _ (.head _))) | exact .tail _ (.tail _ (.tail _ (.tail _ (.head _)))))) (ht := by kernel_rfl) (hv := by rfl)) ?_ | refine Sif rfl rfl rfl (fun hc => ?_) (fun hc => ?_) | refine Sne rfl rfl (fun hc => ?_) (fun hc => ?_)))
      exact g_go (IH (k + 1, A, c) ⟨by omega, hcap⟩ (by omega))
  · obtain rfl : k = (W * H).toNat := by omega
    have hlk' := rawI_len W H n (W * H).toNat
    repeat' (first | refine g_seq ?_ | refine g_list ?_ | refine gD ?_ | (refine isAS ?_; first | refine a_q ?_ | refine a_f1 ?_ | refine a_f2 ?_ | refine a_nil ?_) | (refine isAF ?_; first | refine afin1 ?_ | refine afin2 ?_) | refine qs_nil ?_ | refine ls_nil ?_ | refine g_block ?_ | refine g_then rfl ?_ | refine g_else rfl ?_ | refine g_skip ?_ | refine g_inBlock ?_ | refine g_exit rfl ?_ | (refine isL ?_; first | refine L ?_ | refine ls_skip rfl rfl ?_ | refine L (h := q_lb (hx := rfl) (hm := (by first | exact .head _ | exact .tail _ (.head _) | exact .tail _ (.tail _ (.head _)) | exact .tail _ (.tail _ (.tail _ (.head _))) | exact .tail _ (.tail _ (.tail _ (.tail _ (.head _)))))) (ht := by kernel_rfl) (hv := by rfl)) ?_ | (refine Lb ?_; intro _) | (refine isF 85 ?_; refine Lm [_] _ (h := by exact (fun w hw => sort_c (r := Try.sortI_ren) Try.sortI hw (by omega))) (k' := ?_); rintro _ _ ⟨rfl, rfl⟩) | (refine isF 86 ?_; refine Lm [_] _ (h := by exact (fun w hw => Compact_c (List.length_mergeSort _).symm hw (by rw [List.length_mergeSort]; exact hcap) (by rw [List.length_mergeSort]; omega))) (k' := ?_); rintro _ _ ⟨rfl, rfl⟩) | refine Lif rfl rfl rfl (fun hc => ?_) (fun hc => ?_) | refine Lne rfl rfl (fun hc => ?_) (fun hc => ?_)) | (refine isS ?_; first | refine S ?_ | refine qs_skip rfl rfl ?_ | refine S (h := q_lb (hx := rfl) (hm := (by first | exact .head _ | exact .tail _ (.head _) | exact .tail _ (.tail _ (.head _)) | exact .tail _ (.tail _ (.tail _ (.head _))) | exact .tail _ (.tail _ (.tail _ (.tail _ (.head _)))))) (ht := by kernel_rfl) (hv := by rfl)) ?_ | refine Sif rfl rfl rfl (fun hc => ?_) (fun hc => ?_) | refine Sne rfl rfl (fun hc => ?_) (fun hc => ?_)))
    subst hr
    refine g_m1 Try.func66 (new := [rI A c _]) ?_
    refine ⟨A, c, ?_, rfl, rfl⟩
    have h1 := ddp_len ((rawI W H n (W * H).toNat).mergeSort fun x y => decide (x ≤ y)) ((rawI W H n (W * H).toNat).mergeSort fun x y => decide (x ≤ y)).length
    rw [List.length_mergeSort] at h1 ⊢
    omega
end Go.Proofs.Ytcjokckidpophaa
