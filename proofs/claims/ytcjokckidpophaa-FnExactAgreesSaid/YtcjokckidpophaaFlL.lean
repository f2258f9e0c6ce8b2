/- The fleet: l09Is, l09Fleet of the reference. -/
import Derived.Test.YtcjokckidpophaaFlK
set_option linter.all false
namespace Go.Proofs.Ytcjokckidpophaa
open Go.RowKit Go.G
set_option maxHeartbeats 4000000
theorem l09Is_c {W H : Int} {A : Option Addr} {m c : Nat} {xs : List Int} {w : World} (ha : RdA kI w A xs) (hm : m = xs.length) (hl : xs.length ≤ 9223372036854775807) {b : Bool}
    (hb : decide (1 ≤ W ∧ W ≤ 5 ∧ 1 ≤ H ∧ H ≤ 5 ∧ 1 ≤ xs.length ∧ xs.length ≤ 3 ∧ ∀ j, j < xs.length → 1 ≤ xs.getD j 0 ∧ xs.getD j 0 ≤ 5 ∧ (0 < j → xs.getD j 0 ≤ xs.getD (j - 1) 0)) = b) :
    RetV Try.prog 59 [.agg #[.int .i64 W, .int .i64 H, .slice A m c]] w (.bool b) := by
  subst hm
  refine enter Try.func59 rfl rfl rfl ?_
  repeat' (first | refine g_seq ?_ | refine g_list ?_ | refine gD ?_ | (refine isAS ?_; first | refine a_q ?_ | refine a_f1 ?_ | refine a_f2 ?_ | refine a_nil ?_) | (refine isAF ?_; first | refine afin1 ?_ | refine afin2 ?_) | refine qs_nil ?_ | refine ls_nil ?_ | refine g_block ?_ | refine g_then rfl ?_ | refine g_else rfl ?_ | refine g_skip ?_ | refine g_inBlock ?_ | refine g_exit rfl ?_ | (refine isL ?_; first | refine L ?_ | refine ls_skip rfl rfl ?_ | (refine isF 61 ?_; refine Lcb (h := by exact (fun w _ => l01In_c rfl w)) (kt := fun hc => ?_) (kf := fun hc => ?_)) | refine L (h := q_lb (hx := rfl) (hm := (by first | exact .head _ | exact .tail _ (.head _) | exact .tail _ (.tail _ (.head _)) | exact .tail _ (.tail _ (.tail _ (.head _))) | exact .tail _ (.tail _ (.tail _ (.tail _ (.head _)))))) (ht := by kernel_rfl) (hv := by rfl)) ?_ | (refine Lb ?_; intro _) | refine Lif rfl rfl rfl (fun hc => ?_) (fun hc => ?_) | refine Lne rfl rfl (fun hc => ?_) (fun hc => ?_)) | (refine isS ?_; first | refine S ?_ | refine qs_skip rfl rfl ?_ | (refine isFS 61 ?_; refine Scb (h := by exact (fun w _ => l01In_c rfl w)) (kt := fun hc => ?_) (kf := fun hc => ?_)) | refine S (h := q_lb (hx := rfl) (hm := (by first | exact .head _ | exact .tail _ (.head _) | exact .tail _ (.tail _ (.head _)) | exact .tail _ (.tail _ (.tail _ (.head _))) | exact .tail _ (.tail _ (.tail _ (.tail _ (.head _)))))) (ht := by kernel_rfl) (hv := by rfl)) ?_ | refine Sif rfl rfl rfl (fun hc => ?_) (fun hc => ?_) | refine Sne rfl rfl (fun hc => ?_) (fun hc => ?_)))
  all_goals try (refine g_r1 Try.func59 ?_; rw [← hb, decide_eq_false]; simp at *; omega)
  refine g_wh (α := Nat) (fun k => k ≤ xs.length ∧ ∀ j, j < k → 1 ≤ xs.getD j 0 ∧ xs.getD j 0 ≤ 5 ∧ (0 < j → xs.getD j 0 ≤ xs.getD (j - 1) 0))
    (fun k => [(3, .int .i64 k), (1, .pointer (some ⟨_, 0, none⟩))]) (fun _ => _) (fun k => xs.length - k) 0 ⟨by omega, by omega⟩ ?_
  rintro k ⟨hk, hinv⟩ IH
  have e1 : xs.getD k 0 = xs.getD (k : Int).toNat 0 := by rw [Int.toNat_natCast]
  have e2 : 0 < k → xs.getD (k - 1) 0 = xs.getD ((k : Int) - 1).toNat 0 := fun h => by rw [show ((k : Int) - 1).toNat = k - 1 from by omega]
  repeat' (first | refine g_seq ?_ | refine g_list ?_ | refine gD ?_ | (refine isAS ?_; first | refine a_q ?_ | refine a_f1 ?_ | refine a_f2 ?_ | refine a_nil ?_) | (refine isAF ?_; first | refine afin1 ?_ | refine afin2 ?_) | refine qs_nil ?_ | refine ls_nil ?_ | refine g_block ?_ | refine g_then rfl ?_ | refine g_else rfl ?_ | refine g_skip ?_ | refine g_inBlock ?_ | refine g_exit rfl ?_ | (refine isL ?_; first | refine L ?_ | refine ls_skip rfl rfl ?_ | (refine isF 61 ?_; refine Lcb (h := by exact (fun w _ => l01In_c rfl w)) (kt := fun hc => ?_) (kf := fun hc => ?_)) | refine L (h := q_ix (ri ha) rfl rfl (by kernel_rfl) rfl (by omega) (by omega)) ?_ | refine L (h := q_leI (ri ha) rfl (by kernel_rfl) (by omega) (by omega)) ?_ | refine L (h := q_lb (hx := rfl) (hm := (by first | exact .head _ | exact .tail _ (.head _) | exact .tail _ (.tail _ (.head _)) | exact .tail _ (.tail _ (.tail _ (.head _))) | exact .tail _ (.tail _ (.tail _ (.tail _ (.head _)))))) (ht := by kernel_rfl) (hv := by rfl)) ?_ | (refine Lb ?_; intro _) | refine Lif rfl rfl rfl (fun hc => ?_) (fun hc => ?_) | refine Lne rfl rfl (fun hc => ?_) (fun hc => ?_)) | (refine isS ?_; first | refine S ?_ | refine qs_skip rfl rfl ?_ | (refine isFS 61 ?_; refine Scb (h := by exact (fun w _ => l01In_c rfl w)) (kt := fun hc => ?_) (kf := fun hc => ?_)) | refine S (h := q_ix (ri ha) rfl rfl (by kernel_rfl) rfl (by omega) (by omega)) ?_ | refine S (h := q_leI (ri ha) rfl (by kernel_rfl) (by omega) (by omega)) ?_ | refine S (h := q_lb (hx := rfl) (hm := (by first | exact .head _ | exact .tail _ (.head _) | exact .tail _ (.tail _ (.head _)) | exact .tail _ (.tail _ (.tail _ (.head _))) | exact .tail _ (.tail _ (.tail _ (.tail _ (.head _)))))) (ht := by kernel_rfl) (hv := by rfl)) ?_ | refine Sif rfl rfl rfl (fun hc => ?_) (fun hc => ?_) | refine Sne rfl rfl (fun hc => ?_) (fun hc => ?_)))
  all_goals first
    | (refine g_go (IH (k+1) ⟨by omega, fun j hj => ?_⟩ (by omega))
       rcases Nat.lt_or_ge j k with h | h
       · exact hinv j h
       · obtain rfl : j = k := by omega
         simp at *; omega)
    | (refine g_r1 Try.func59 ?_
       rw [← hb, decide_eq_false]
       intro hh
       have h3 := hh.2.2.2.2.2.2 k (by omega)
       simp at *; omega)
    | (refine g_r1 Try.func59 ?_
       rw [← hb, decide_eq_true]
       simp at *
       exact ⟨by omega, by omega, by omega, by omega, by omega, by omega, fun j hj => hinv j (by omega)⟩)
/-- the cells of the first ships -/
def usedU (fleet : List Int) : Nat → Int
  | 0 => 0
  | k + 1 => bits .or .i64 (usedU fleet k) (fleet.getD k 0)
def knownU (list : List Int) (x : Int) : Nat → Bool
  | 0 => false
  | i + 1 => knownU list x i || decide (list.getD i 0 = x)
theorem knownU_iff (list : List Int) (x : Int) : ∀ i, i ≤ list.length → (knownU list x i = true ↔ x ∈ list.take i)
  | 0, _ => by simp [knownU]
  | i + 1, h => by
    have ih := knownU_iff list x i (by omega)
    rw [knownU, List.take_succ_eq_append_getElem (by omega), List.mem_append, List.mem_singleton, Bool.or_eq_true, ih]
    have e : list[i] = list.getD i 0 := by simp [show i < list.length by omega]
    rw [e, decide_eq_true_eq, eq_comm (a := x)]
def flS (W H : Int) (ships fleet : List Int) : Bool := decide (fleet.length = ships.length ∧ ∀ k, k < fleet.length → fleet.getD k 0 ∈ plc W H (ships.getD k 0) ∧ bits .and .i64 (fleet.getD k 0) (usedU fleet k) = 0 ∧ ¬ (0 < k ∧ ships.getD k 0 = ships.getD (k - 1) 0 ∧ fleet.getD k 0 < fleet.getD (k - 1) 0))
theorem l09Fleet_c {A B : Option Addr} {m m' c c' : Nat} {W H : Int} {ships fleet : List Int} {w : World} (ha : RdA kI w A ships) (hm : m = ships.length) (hb : RdA kI w B fleet) (hm' : m' = fleet.length) (hl : fleet.length ≤ 1099511627776)
    (hW0 : 1 ≤ W) (hW : W ≤ 5) (hH0 : 1 ≤ H) (hH : H ≤ 5) (hsh : ships.length ≤ 3 ∧ ∀ j, j < ships.length → 1 ≤ ships.getD j 0 ∧ ships.getD j 0 ≤ 5) {b : Bool} (hr : flS W H ships fleet = b) :
    RetV Try.prog 60 [.agg #[.int .i64 W, .int .i64 H, .slice A m c], .slice B m' c'] w (.bool b) := by
  subst hm hm'
  refine enter Try.func60 rfl rfl rfl ?_
  repeat' (first | refine g_seq ?_ | refine g_list ?_ | refine gD ?_ | (refine isAS ?_; first | refine a_q ?_ | refine a_f1 ?_ | refine a_f2 ?_ | refine a_nil ?_) | (refine isAF ?_; first | refine afin1 ?_ | refine afin2 ?_) | refine qs_nil ?_ | refine ls_nil ?_ | refine g_block ?_ | refine g_then rfl ?_ | refine g_else rfl ?_ | refine g_skip ?_ | refine g_inBlock ?_ | refine g_exit rfl ?_ | (refine isL ?_; first | refine L ?_ | refine ls_skip rfl rfl ?_ | refine L (h := q_lb (hx := rfl) (hm := (by first | exact .head _ | exact .tail _ (.head _) | exact .tail _ (.tail _ (.head _)) | exact .tail _ (.tail _ (.tail _ (.head _))) | exact .tail _ (.tail _ (.tail _ (.tail _ (.head _)))))) (ht := by kernel_rfl) (hv := by rfl)) ?_ | (refine Lb ?_; intro _) | refine Lif rfl rfl rfl (fun hc => ?_) (fun hc => ?_) | refine Lne rfl rfl (fun hc => ?_) (fun hc => ?_)) | (refine isS ?_; first | refine S ?_ | refine qs_skip rfl rfl ?_ | refine S (h := q_lb (hx := rfl) (hm := (by first | exact .head _ | exact .tail _ (.head _) | exact .tail _ (.tail _ (.head _)) | exact .tail _ (.tail _ (.tail _ (.head _))) | exact .tail _ (.tail _ (.tail _ (.tail _ (.head _)))))) (ht := by kernel_rfl) (hv := by rfl)) ?_ | refine Sif rfl rfl rfl (fun hc => ?_) (fun hc => ?_) | refine Sne rfl rfl (fun hc => ?_) (fun hc => ?_)))
  · refine g_r1 Try.func60 ?_
    rw [← hr, flS, decide_eq_false (fun h => by omega)]
  refine g_wh (α := Nat) (fun k => k ≤ fleet.length ∧ ∀ j, j < k → fleet.getD j 0 ∈ plc W H (ships.getD j 0) ∧ bits .and .i64 (fleet.getD j 0) (usedU fleet j) = 0 ∧ ¬ (0 < j ∧ ships.getD j 0 = ships.getD (j - 1) 0 ∧ fleet.getD j 0 < fleet.getD (j - 1) 0))
    (fun k => [(1, .slice B fleet.length c'), (2, .pointer (some ⟨_, 0, none⟩)), (5, .int .i64 (usedU fleet k)), (6, .int .i64 k)]) (fun _ => _) (fun k => fleet.length - k) 0 ⟨by omega, by omega⟩ ?_
  rintro k ⟨hk, hinv⟩ IH
  have hn : k < fleet.length → 1 ≤ ships.getD (k : Int).toNat 0 ∧ ships.getD (k : Int).toNat 0 ≤ 5 := fun h => by rw [Int.toNat_natCast]; exact hsh.2 k (by omega)
  repeat' (first | refine g_seq ?_ | refine g_list ?_ | (refine isR 8 ?_; refine g_add [(0, 0), (1, 0), (2, 0), (3, 0), (4, 0), (5, 0), (6, 1), (7, 0)] ?_) | refine gD ?_ | (refine isAS ?_; first | refine a_q ?_ | refine a_f1 ?_ | refine a_f2 ?_ | refine a_nil ?_) | (refine isAF ?_; first | refine afin1 ?_ | refine afin2 ?_) | refine qs_nil ?_ | refine ls_nil ?_ | refine g_block ?_ | refine g_then rfl ?_ | refine g_else rfl ?_ | refine g_skip ?_ | refine g_inBlock ?_ | refine g_exit rfl ?_ | (refine isL ?_; first | refine L ?_ | refine ls_skip rfl rfl ?_ | refine L (h := q_ix (ri ha) rfl rfl (by kernel_rfl) rfl (by omega) (by omega)) ?_ | refine L (h := q_leI (ri ha) rfl (by kernel_rfl) (by omega) (by omega)) ?_ | refine L (h := q_lbA (by first | exact .head _ | exact .tail _ (.head _)) rfl (by kernel_rfl)) ?_ | refine L (h := q_lb (hx := rfl) (hm := (by first | exact .head _ | exact .tail _ (.head _) | exact .tail _ (.tail _ (.head _)) | exact .tail _ (.tail _ (.tail _ (.head _))) | exact .tail _ (.tail _ (.tail _ (.tail _ (.head _)))))) (ht := by kernel_rfl) (hv := by rfl)) ?_ | (refine Lb ?_; intro _) | (refine isF 69 ?_; refine Lr (h := by exact (fun w hw => l09Placements_c w hW0 hW hH0 hH (hn (by omega)).1 (hn (by omega)).2)) (k' := ?_); rintro _ _ ⟨A1, c1, hc1, rfl, rfl⟩) | refine Lif rfl rfl rfl (fun hc => ?_) (fun hc => ?_) | refine Lne rfl rfl (fun hc => ?_) (fun hc => ?_)) | (refine isS ?_; first | refine S ?_ | refine qs_skip rfl rfl ?_ | refine S (h := q_ix (ri ha) rfl rfl (by kernel_rfl) rfl (by omega) (by omega)) ?_ | refine S (h := q_leI (ri ha) rfl (by kernel_rfl) (by omega) (by omega)) ?_ | refine S (h := q_lbA (by first | exact .head _ | exact .tail _ (.head _)) rfl (by kernel_rfl)) ?_ | refine S (h := q_lb (hx := rfl) (hm := (by first | exact .head _ | exact .tail _ (.head _) | exact .tail _ (.tail _ (.head _)) | exact .tail _ (.tail _ (.tail _ (.head _))) | exact .tail _ (.tail _ (.tail _ (.tail _ (.head _)))))) (ht := by kernel_rfl) (hv := by rfl)) ?_ | refine Sif rfl rfl rfl (fun hc => ?_) (fun hc => ?_) | refine Sne rfl rfl (fun hc => ?_) (fun hc => ?_)))
  · have hpl := plc_len (W := W) (H := H) (n := ships.getD (k : Int).toNat 0) hW hH
    have es : ships.getD k 0 = ships.getD (k : Int).toNat 0 := by rw [Int.toNat_natCast]
    have ef : fleet.getD k 0 = fleet.getD (k : Int).toNat 0 := by rw [Int.toNat_natCast]
    have es1 : 0 < k → ships.getD (k - 1) 0 = ships.getD ((k : Int) - 1).toNat 0 := fun h => by rw [show ((k : Int) - 1).toNat = k - 1 from by omega]
    have ef1 : 0 < k → fleet.getD (k - 1) 0 = fleet.getD ((k : Int) - 1).toNat 0 := fun h => by rw [show ((k : Int) - 1).toNat = k - 1 from by omega]
    generalize hli : plc W H (ships.getD (k : Int).toNat 0) = list at *
    refine g_wh (α := Nat) (fun i => i ≤ list.length)
      (fun i => [(1, .slice B fleet.length c'), (2, .pointer (some ⟨_, 0, none⟩)), (5, .int .i64 (usedU fleet k)), (6, .int .i64 k), (7, .bool (knownU list (fleet.getD (k : Int).toNat 0) i)), (8, .slice A1 list.length c1), (9, .int .i64 i)]) (fun _ => _) (fun i => list.length - i) 0 (by omega) ?_
    rintro i hi IHi
    have ei : list.getD i 0 = list.getD (i : Int).toNat 0 := by rw [Int.toNat_natCast]
    have hki := knownU_iff list (fleet.getD (k : Int).toNat 0) i hi
    generalize hkn : knownU list (fleet.getD (k : Int).toNat 0) i = kb at *
    cases kb
    all_goals
      repeat' (first | refine g_seq ?_ | refine g_list ?_ | refine gD ?_ | (refine isAS ?_; first | refine a_q ?_ | refine a_f1 ?_ | refine a_f2 ?_ | refine a_nil ?_) | (refine isAF ?_; first | refine afin1 ?_ | refine afin2 ?_) | refine qs_nil ?_ | refine ls_nil ?_ | refine g_block ?_ | refine g_then rfl ?_ | refine g_else rfl ?_ | refine g_skip ?_ | refine g_inBlock ?_ | refine g_exit rfl ?_ | (refine isL ?_; first | refine L ?_ | refine ls_skip rfl rfl ?_ | refine L (h := q_ix (ri ha) rfl rfl (by kernel_rfl) rfl (by omega) (by omega)) ?_ | refine L (h := q_leI (ri ha) rfl (by kernel_rfl) (by omega) (by omega)) ?_ | refine L (h := q_ix (ri hb) rfl rfl (by kernel_rfl) rfl (by omega) (by omega)) ?_ | refine L (h := q_leI (ri hb) rfl (by kernel_rfl) (by omega) (by omega)) ?_ | refine L (h := q_ix (kd := kI) (xs := list) (ro (.head _)) rfl rfl (by kernel_rfl) rfl (by omega) (by omega)) ?_ | refine L (h := q_leI (xs := list) (ro (.head _)) rfl (by kernel_rfl) (by omega) (by omega)) ?_ | refine L (h := q_lb (hx := rfl) (hm := (by first | exact .head _ | exact .tail _ (.head _) | exact .tail _ (.tail _ (.head _)) | exact .tail _ (.tail _ (.tail _ (.head _))) | exact .tail _ (.tail _ (.tail _ (.tail _ (.head _)))))) (ht := by kernel_rfl) (hv := by rfl)) ?_ | (refine Lb ?_; intro _) | refine Lif rfl rfl rfl (fun hc => ?_) (fun hc => ?_) | refine Lne rfl rfl (fun hc => ?_) (fun hc => ?_)) | (refine isS ?_; first | refine S ?_ | refine qs_skip rfl rfl ?_ | refine S (h := q_ix (ri ha) rfl rfl (by kernel_rfl) rfl (by omega) (by omega)) ?_ | refine S (h := q_leI (ri ha) rfl (by kernel_rfl) (by omega) (by omega)) ?_ | refine S (h := q_ix (ri hb) rfl rfl (by kernel_rfl) rfl (by omega) (by omega)) ?_ | refine S (h := q_leI (ri hb) rfl (by kernel_rfl) (by omega) (by omega)) ?_ | refine S (h := q_ix (kd := kI) (xs := list) (ro (.head _)) rfl rfl (by kernel_rfl) rfl (by omega) (by omega)) ?_ | refine S (h := q_leI (xs := list) (ro (.head _)) rfl (by kernel_rfl) (by omega) (by omega)) ?_ | refine S (h := q_lb (hx := rfl) (hm := (by first | exact .head _ | exact .tail _ (.head _) | exact .tail _ (.tail _ (.head _)) | exact .tail _ (.tail _ (.tail _ (.head _))) | exact .tail _ (.tail _ (.tail _ (.tail _ (.head _)))))) (ht := by kernel_rfl) (hv := by rfl)) ?_ | refine Sif rfl rfl rfl (fun hc => ?_) (fun hc => ?_) | refine Sne rfl rfl (fun hc => ?_) (fun hc => ?_)))
    all_goals first
      | (have e : knownU list (fleet.getD (k : Int).toNat 0) (i + 1) = true := by
           rw [knownU, hkn, ei]
           first
           | (rw [Bool.false_or]; exact decide_eq_true (by assumption))
           | (rw [Bool.true_or])
         have IH' := IHi (i + 1) (by omega) (by omega)
         rw [e] at IH'
         exact g_go IH')
      | (have e : knownU list (fleet.getD (k : Int).toNat 0) (i + 1) = false := by
           rw [knownU, hkn, ei]
           rw [Bool.false_or]; exact decide_eq_false (by assumption)
         have IH' := IHi (i + 1) (by omega) (by omega)
         rw [e] at IH'
         exact g_go IH')
      | (refine g_r1 Try.func60 ?_
         rw [← hr, flS, decide_eq_false]
         intro hh
         have h3 := hh.2 k (by omega)
         rw [es, ef, hli] at h3
         first
         | exact absurd (hki.2 (by rw [List.take_of_length_le (by omega)]; exact h3.1)) Bool.false_ne_true
         | omega)
      | (refine g_go (IH (k + 1) ⟨by omega, fun j hj => ?_⟩ (by omega))
         rcases Nat.lt_or_ge j k with h | h
         · exact hinv j h
         · obtain rfl : j = k := by omega
           rw [es, ef, hli]
           refine ⟨?_, by omega, by omega⟩
           have h5 := hki.1 rfl
           rw [List.take_of_length_le (by omega)] at h5
           exact h5)
  · refine g_r1 Try.func60 ?_
    rw [← hr, flS, decide_eq_true]
    exact ⟨by omega, fun j hj => hinv j (by omega)⟩
end Go.Proofs.Ytcjokckidpophaa
