/- slices.Compact at int64; a sea's cells. -/
import Derived.Test.YtcjokckidpophaaGLib
import Derived.Test.YtcjokckidpophaaFlF
import Derived.Test.YtcjokckidpophaaShelf
set_option linter.all false
namespace Go.Proofs.Ytcjokckidpophaa
open Go.RowKit Go.G
set_option maxHeartbeats 2000000
theorem cells_c {A : Option Addr} {m c : Nat} {W H : Int} (w : World) (hW0 : 1 ≤ W) (hW : W ≤ 5) (hH0 : 1 ≤ H) (hH : H ≤ 5) : RetV Try.prog 72 [.agg #[.int .i64 W, .int .i64 H, .slice A m c]] w (.int .i64 (W * H)) := by
  have h := mul_bounds (a := W) (b := H) (by omega) (by omega) (by omega) (by omega)
  refine enter Try.func72 rfl rfl rfl ?_
  repeat' (first | refine g_seq ?_ | refine g_list ?_ | refine gD ?_ | (refine isAS ?_; first | refine a_q ?_ | refine a_f1 ?_ | refine a_f2 ?_ | refine a_nil ?_) | (refine isAF ?_; first | refine afin1 ?_ | refine afin2 ?_) | refine qs_nil ?_ | refine ls_nil ?_ | refine g_block ?_ | refine g_then rfl ?_ | refine g_else rfl ?_ | refine g_skip ?_ | refine g_inBlock ?_ | refine g_exit rfl ?_ | (refine isL ?_; first | refine L ?_ | refine ls_skip rfl rfl ?_ | refine L (h := q_lb (hx := rfl) (hm := (by first | exact .head _ | exact .tail _ (.head _) | exact .tail _ (.tail _ (.head _)) | exact .tail _ (.tail _ (.tail _ (.head _))) | exact .tail _ (.tail _ (.tail _ (.tail _ (.head _)))))) (ht := by kernel_rfl) (hv := by rfl)) ?_ | (refine Lb ?_; intro _) | refine Lif rfl rfl rfl (fun hc => ?_) (fun hc => ?_) | refine Lne rfl rfl (fun hc => ?_) (fun hc => ?_)) | (refine isS ?_; first | refine S ?_ | refine qs_skip rfl rfl ?_ | refine S (h := q_lb (hx := rfl) (hm := (by first | exact .head _ | exact .tail _ (.head _) | exact .tail _ (.tail _ (.head _)) | exact .tail _ (.tail _ (.tail _ (.head _))) | exact .tail _ (.tail _ (.tail _ (.tail _ (.head _)))))) (ht := by kernel_rfl) (hv := by rfl)) ?_ | refine Sif rfl rfl rfl (fun hc => ?_) (fun hc => ?_) | refine Sne rfl rfl (fun hc => ?_) (fun hc => ?_)))
  exact g_r1 Try.func72 rfl
/-- neighbours that are alike, once -/
def ddp (xs : List Int) : Nat → List Int
  | 0 => []
  | j + 1 => if 0 < j ∧ xs.getD j 0 = xs.getD (j - 1) 0 then ddp xs j else ddp xs j ++ [xs.getD j 0]
theorem ddp_succ (xs : List Int) (j : Nat) : ddp xs (j + 1) = if 0 < j ∧ xs.getD j 0 = xs.getD (j - 1) 0 then ddp xs j else ddp xs j ++ [xs.getD j 0] := rfl
theorem ddp_len (xs : List Int) : ∀ j, (ddp xs j).length ≤ j
  | 0 => by simp [ddp]
  | j + 1 => by
    have := ddp_len xs j
    unfold ddp
    split <;> simp <;> omega
theorem ddp_take (xs : List Int) : ∀ k, k ≤ xs.length → (∀ j, 0 < j → j < k → xs.getD j 0 ≠ xs.getD (j - 1) 0) → ddp xs k = xs.take k
  | 0, _, _ => by simp [ddp]
  | k + 1, hk, h => by
    have ih := ddp_take xs k (by omega) fun j h1 h2 => h j h1 (by omega)
    unfold ddp
    rw [if_neg (fun hh => h k hh.1 (by omega) hh.2), ih, List.take_succ_eq_append_getElem (by omega)]
    simp [show k < xs.length by omega]
theorem over_step (xs d : List Int) (k : Nat) (x : Int) (hd : d.length = k) (hk : k < xs.length) : (d ++ xs.drop k).set k x = (d ++ [x]) ++ xs.drop (k + 1) := by
  subst hd
  rw [List.set_append_right _ _ (Nat.le_refl _), Nat.sub_self, List.drop_eq_getElem_cons hk, List.set_cons_zero]
  simp
theorem getD_drop0 (xs : List Int) (k j : Nat) : (xs.drop k).getD j 0 = xs.getD (k + j) 0 := by
  simp [List.getD_eq_getElem?_getD]
theorem getD_tail (xs d : List Int) (k i : Nat) (hd : d.length = k) (h : k ≤ i) : (d ++ xs.drop k).getD i 0 = xs.getD i 0 := by
  subst hd
  simp only [List.getD_eq_getElem?_getD, List.getElem?_append_right h, List.getElem?_drop]
  rw [show d.length + (i - d.length) = i from by omega]
theorem Compact_c {A : Option Addr} {m c : Nat} {xs : List Int} {w0 w : World} {bs : List Asn} (hm : m = xs.length) (hw : cls w0 (rI A c xs :: bs) w) (hcap : xs.length ≤ c) (hl : xs.length ≤ 9223372036854775807) :
    RetC Try.prog 86 [.slice A m c] w0 bs w (fun v new => v = .slice A (ddp xs xs.length).length c ∧ new = [rI A c (ddp xs xs.length)]) := by
  subst hm
  refine enterC Try.func86 rfl rfl rfl hw ?_
  repeat' (first | refine g_seq ?_ | refine g_list ?_ | refine gD ?_ | (refine isAS ?_; first | refine a_q ?_ | refine a_f1 ?_ | refine a_f2 ?_ | refine a_nil ?_) | (refine isAF ?_; first | refine afin1 ?_ | refine afin2 ?_) | refine qs_nil ?_ | refine ls_nil ?_ | refine g_block ?_ | refine g_then rfl ?_ | refine g_else rfl ?_ | refine g_skip ?_ | refine g_inBlock ?_ | refine g_exit rfl ?_ | (refine isL ?_; first | refine L ?_ | refine ls_skip rfl rfl ?_ | refine L (h := q_lb (hx := rfl) (hm := (by first | exact .head _ | exact .tail _ (.head _) | exact .tail _ (.tail _ (.head _)) | exact .tail _ (.tail _ (.tail _ (.head _))) | exact .tail _ (.tail _ (.tail _ (.tail _ (.head _)))))) (ht := by kernel_rfl) (hv := by rfl)) ?_ | (refine Lb ?_; intro _) | refine Lif rfl rfl rfl (fun hc => ?_) (fun hc => ?_) | refine Lne rfl rfl (fun hc => ?_) (fun hc => ?_)) | (refine isS ?_; first | refine S ?_ | refine qs_skip rfl rfl ?_ | refine S (h := q_lb (hx := rfl) (hm := (by first | exact .head _ | exact .tail _ (.head _) | exact .tail _ (.tail _ (.head _)) | exact .tail _ (.tail _ (.tail _ (.head _))) | exact .tail _ (.tail _ (.tail _ (.tail _ (.head _)))))) (ht := by kernel_rfl) (hv := by rfl)) ?_ | refine Sif rfl rfl rfl (fun hc => ?_) (fun hc => ?_) | refine Sne rfl rfl (fun hc => ?_) (fun hc => ?_)))
  · have e : ddp xs xs.length = xs := by rw [ddp_take xs xs.length (Nat.le_refl _) (by omega), List.take_length]
    refine g_c1 [rI A c (ddp xs xs.length)] Try.func86 (by rw [e]; exact ⟨rfl, rfl⟩) (by rw [e]; exact fun _ h => h)
  refine g_wh (α := Nat) (fun k => 1 ≤ k ∧ k ≤ xs.length ∧ ∀ j, 0 < j → j < k → xs.getD j 0 ≠ xs.getD (j - 1) 0) (fun k => [(0, .slice A xs.length c), (3, .int .i64 k)]) (fun _ => _) (fun k => xs.length - k) 1 ⟨by omega, by omega, by omega⟩ ?_
  rintro k ⟨hk1, hk, hinv⟩ IH
  have e1 : xs.getD (k - 1) 0 = xs.getD ((k : Int) - 1).toNat 0 := by rw [show ((k : Int) - 1).toNat = k - 1 from by omega]
  have e2 : xs.getD k 0 = xs.getD (k : Int).toNat 0 := by rw [Int.toNat_natCast]
  repeat' (first | refine g_seq ?_ | refine g_list ?_ | refine gD ?_ | (refine isAS ?_; first | refine a_q ?_ | refine a_f1 ?_ | refine a_f2 ?_ | refine a_nil ?_) | (refine isAF ?_; first | refine afin1 ?_ | refine afin2 ?_) | refine qs_nil ?_ | refine ls_nil ?_ | refine g_block ?_ | refine g_then rfl ?_ | refine g_else rfl ?_ | refine g_skip ?_ | refine g_inBlock ?_ | refine g_exit rfl ?_ | (refine isL ?_; first | refine L ?_ | refine ls_skip rfl rfl ?_ | refine L (h := q_ix (ro (.head _)) rfl rfl (by kernel_rfl) rfl (by omega) (by omega)) ?_ | refine L (h := q_leI (ro (.head _)) rfl (by kernel_rfl) (by omega) (by omega)) ?_ | refine L (h := q_slD 1 rfl rfl (by kernel_rfl) (by omega) (by omega)) ?_ | refine L (h := q_lb (hx := rfl) (hm := (by first | exact .head _ | exact .tail _ (.head _) | exact .tail _ (.tail _ (.head _)) | exact .tail _ (.tail _ (.tail _ (.head _))) | exact .tail _ (.tail _ (.tail _ (.tail _ (.head _)))))) (ht := by kernel_rfl) (hv := by rfl)) ?_ | (refine Lb ?_; intro _) | refine Lif rfl rfl rfl (fun hc => ?_) (fun hc => ?_) | refine Lne rfl rfl (fun hc => ?_) (fun hc => ?_)) | (refine isS ?_; first | refine S ?_ | refine qs_skip rfl rfl ?_ | refine S (h := q_ix (ro (.head _)) rfl rfl (by kernel_rfl) rfl (by omega) (by omega)) ?_ | refine S (h := q_leI (ro (.head _)) rfl (by kernel_rfl) (by omega) (by omega)) ?_ | refine S (h := q_slD 1 rfl rfl (by kernel_rfl) (by omega) (by omega)) ?_ | refine S (h := q_lb (hx := rfl) (hm := (by first | exact .head _ | exact .tail _ (.head _) | exact .tail _ (.tail _ (.head _)) | exact .tail _ (.tail _ (.tail _ (.head _))) | exact .tail _ (.tail _ (.tail _ (.tail _ (.head _)))))) (ht := by kernel_rfl) (hv := by rfl)) ?_ | refine Sif rfl rfl rfl (fun hc => ?_) (fun hc => ?_) | refine Sne rfl rfl (fun hc => ?_) (fun hc => ?_)))
  · have hkl : k < xs.length := by omega
    have hd0 : ddp xs (k + 1) = xs.take k := by
      show (if _ then _ else _) = _
      rw [if_pos ⟨by omega, by omega⟩]
      exact ddp_take xs k hk hinv
    have hl0 : (ddp xs (k + 1)).length = k := by rw [hd0, List.length_take]; omega
    have hM0 : ddp xs (k + 1) ++ xs.drop (ddp xs (k + 1)).length = xs := by rw [hl0, hd0, List.take_append_drop]
    refine g_wh (α := Nat) (fun i => 1 ≤ i ∧ i ≤ xs.length - k ∧ (ddp xs (k + i)).length < k + i) (fun i => [(0, .slice A xs.length c), (3, .int .i64 (ddp xs (k + i)).length), (4, .slice (pAdd A c k 1) (xs.length - k) (c - k)), (5, .int .i64 i)])
      (fun i => rI A c (ddp xs (k + i) ++ xs.drop (ddp xs (k + i)).length) :: bs) (fun i => xs.length - i) 1 ⟨by omega, by omega, by omega⟩ ?_ ⟨rfl, by rw [hl0]; rfl, rfl, rfl, trivial⟩ (by rw [hM0])
    rintro i ⟨hi1, hi, hdl⟩ IHi
    have hLl : (ddp xs (k + i) ++ xs.drop (ddp xs (k + i)).length).length = xs.length := by rw [List.length_append, List.length_drop]; omega
    have hget : ∀ q, (ddp xs (k + i)).length ≤ q → (ddp xs (k + i) ++ xs.drop (ddp xs (k + i)).length).getD q 0 = xs.getD q 0 := fun q hq => getD_tail xs _ _ q rfl hq
    generalize hL : ddp xs (k + i) ++ xs.drop (ddp xs (k + i)).length = q1 at *
    repeat' (first | refine g_seq ?_ | refine g_list ?_ | refine gD ?_ | (refine isAS ?_; first | refine a_q ?_ | refine a_f1 ?_ | refine a_f2 ?_ | refine a_nil ?_) | (refine isAF ?_; first | refine afin1 ?_ | refine afin2 ?_) | refine qs_nil ?_ | refine ls_nil ?_ | refine g_block ?_ | refine g_then rfl ?_ | refine g_else rfl ?_ | refine g_skip ?_ | refine g_inBlock ?_ | refine g_exit rfl ?_ | (refine isL ?_; first | refine L ?_ | refine ls_skip rfl rfl ?_ | refine L (h := q_ix (fun w hw => (ro (.head _) w hw : RdA kI w A q1).drop (by omega) k) rfl rfl (by kernel_rfl) (by rw [List.length_drop]; omega) (by omega) (by rw [List.length_drop]; omega)) ?_ | refine L (h := q_leI (fun w hw => (ro (.head _) w hw : RdA kI w A q1).drop (by omega) k) rfl (by kernel_rfl) (by omega) (by rw [List.length_drop]; omega)) ?_ | refine L (h := q_ix (kd := kI) (xs := q1) (ro (.head _)) rfl rfl (by kernel_rfl) (by omega) (by omega) (by omega)) ?_ | refine L (h := q_slD 1 rfl rfl (by kernel_rfl) (by omega) (by omega)) ?_ | refine L (h := q_slT 1 rfl rfl (by kernel_rfl) (by omega) (by omega)) ?_ | refine L (h := q_lb (hx := rfl) (hm := (by first | exact .head _ | exact .tail _ (.head _) | exact .tail _ (.tail _ (.head _)) | exact .tail _ (.tail _ (.tail _ (.head _))) | exact .tail _ (.tail _ (.tail _ (.tail _ (.head _)))))) (ht := by kernel_rfl) (hv := by rfl)) ?_ | (refine Lb ?_; intro _) | (refine Lse 0 eI ((q1.drop k).getD (i : Int).toNat 0) (j := (ddp xs (k + i)).length) ?_) | (refine Lclr 0 eI (ddp xs (k + i)).length 8 ?_) | refine Lif rfl rfl rfl (fun hc => ?_) (fun hc => ?_) | refine Lne rfl rfl (fun hc => ?_) (fun hc => ?_)) | (refine isS ?_; first | refine S ?_ | refine qs_skip rfl rfl ?_ | refine S (h := q_ix (fun w hw => (ro (.head _) w hw : RdA kI w A q1).drop (by omega) k) rfl rfl (by kernel_rfl) (by rw [List.length_drop]; omega) (by omega) (by rw [List.length_drop]; omega)) ?_ | refine S (h := q_leI (fun w hw => (ro (.head _) w hw : RdA kI w A q1).drop (by omega) k) rfl (by kernel_rfl) (by omega) (by rw [List.length_drop]; omega)) ?_ | refine S (h := q_ix (kd := kI) (xs := q1) (ro (.head _)) rfl rfl (by kernel_rfl) (by omega) (by omega) (by omega)) ?_ | refine S (h := q_slD 1 rfl rfl (by kernel_rfl) (by omega) (by omega)) ?_ | refine S (h := q_slT 1 rfl rfl (by kernel_rfl) (by omega) (by omega)) ?_ | refine S (h := q_lb (hx := rfl) (hm := (by first | exact .head _ | exact .tail _ (.head _) | exact .tail _ (.tail _ (.head _)) | exact .tail _ (.tail _ (.tail _ (.head _))) | exact .tail _ (.tail _ (.tail _ (.tail _ (.head _)))))) (ht := by kernel_rfl) (hv := by rfl)) ?_ | refine Sif rfl rfl rfl (fun hc => ?_) (fun hc => ?_) | refine Sne rfl rfl (fun hc => ?_) (fun hc => ?_)))
    all_goals
      have e3 : (q1.drop k).getD (i : Int).toNat 0 = xs.getD (k + i) 0 := by rw [Int.toNat_natCast, getD_drop0, hget _ (by omega)]
      have e4 : (q1.drop k).getD ((i : Int) - 1).toNat 0 = xs.getD (k + i - 1) 0 := by rw [show ((i : Int) - 1).toNat = i - 1 from by omega, getD_drop0, hget _ (by omega), show k + (i - 1) = k + i - 1 from by omega]
    · have hs : ddp xs (k + (i + 1)) = ddp xs (k + i) ++ [xs.getD (k + i) 0] := by
        rw [show k + (i + 1) = k + i + 1 from rfl, ddp_succ, if_neg (fun hh => by rw [← e3, ← e4] at hh; omega)]
      have ho : q1.set (ddp xs (k + i)).length (xs.getD (k + i) 0) = ddp xs (k + i) ++ [xs.getD (k + i) 0] ++ xs.drop ((ddp xs (k + i)).length + 1) := by
        rw [← hL]; exact over_step xs _ _ _ rfl (by omega)
      have IH' := IHi (i + 1) ⟨by omega, by omega, by rw [hs, List.length_append, List.length_singleton]; omega⟩ (by omega)
      dsimp only at IH'
      rw [hs, List.length_append, List.length_singleton, ← ho, ← e3] at IH'
      exact g_go IH'
    · have hs : ddp xs (k + (i + 1)) = ddp xs (k + i) := by
        rw [show k + (i + 1) = k + i + 1 from rfl, ddp_succ, if_pos ⟨by omega, by rw [← e3, ← e4]; assumption⟩]
      have IH' := IHi (i + 1) ⟨by omega, by omega, by rw [hs]; omega⟩ (by omega)
      dsimp only at IH'
      rw [hs, hL] at IH'
      exact g_go IH'
    · have hE : ddp xs xs.length = ddp xs (k + i) := by rw [show k + i = xs.length from by omega]
      refine g_c1 [rI A c (ddp xs (k + i))] Try.func86 (by rw [hE]; exact ⟨rfl, rfl⟩) fun w h => ?_
      have h2 := h.take (ddp xs (k + i)).length
      have h3 : (q1.take (ddp xs (k + i)).length ++ List.replicate (q1.length - (ddp xs (k + i)).length) eI.zero).take (ddp xs (k + i)).length = ddp xs (k + i) := by
        rw [← hL]; simp
      rw [h3] at h2; exact h2
  · refine g_go (IH (k + 1) ⟨by omega, by omega, fun j h1 h2 => ?_⟩ (by omega))
    rcases Nat.lt_or_ge j k with h | h
    · exact hinv j h1 h
    · obtain rfl : j = k := by omega
      omega
  · have e : ddp xs xs.length = xs := by
      rw [ddp_take xs xs.length (Nat.le_refl _) fun j h1 h2 => hinv j h1 (by omega), List.take_length]
    refine g_c1 [rI A c (ddp xs xs.length)] Try.func86 (by rw [e]; exact ⟨rfl, rfl⟩) (by rw [e]; exact fun _ h => h)
end Go.Proofs.Ytcjokckidpophaa
