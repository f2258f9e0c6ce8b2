/- The fleet: l09Shots, Agrees of the reference. -/
import Derived.Test.YtcjokckidpophaaFlN
set_option linter.all false
namespace Go.Proofs.Ytcjokckidpophaa
open Go.RowKit Go.G
set_option maxHeartbeats 2000000
def shotsS (W H : Int) (ships : List Int) (sh : List (Int × Int)) : Int :=
  if seaS W H ships then (if (∀ k, k < sh.length → 0 ≤ (sh.getD k (0, 0)).2 ∧ (sh.getD k (0, 0)).2 ≤ 2) ∧ difS W H (sh.map Prod.fst) = true then 0 else 2) else 1
theorem l09Shots_c {A B : Option Addr} {m m' c c' : Nat} {W H : Int} {ships : List Int} {sh : List (Int × Int)} {w : World} (ha : RdA kI w A ships) (hm : m = ships.length) (hl0 : ships.length ≤ 9223372036854775807) (hb : RdA (Kd.of eShot) w B sh) (hm' : m' = sh.length) (hl : sh.length ≤ 1099511627776)
    {r : Int} (hr : shotsS W H ships sh = r) :
    RetV Try.prog 35 [.agg #[.int .i64 W, .int .i64 H, .slice A m c], .slice B m' c'] w (.int .i64 r) := by
  subst hr hm'
  unfold shotsS
  by_cases hs : seaS W H ships = true
  · have h := of_decide_eq_true hs
    rw [if_pos hs]
    refine enter Try.func35 rfl rfl rfl ?_
    repeat' (first | refine g_seq ?_ | refine g_list ?_ | refine gD ?_ | (refine isAS ?_; first | refine a_q ?_ | refine a_f1 ?_ | refine a_f2 ?_ | refine a_nil ?_) | (refine isAF ?_; first | refine afin1 ?_ | refine afin2 ?_) | refine qs_nil ?_ | refine ls_nil ?_ | refine g_block ?_ | refine g_then rfl ?_ | refine g_else rfl ?_ | refine g_skip ?_ | refine g_inBlock ?_ | refine g_exit rfl ?_ | (refine isL ?_; first | refine L ?_ | refine ls_skip rfl rfl ?_ | (refine isF 59 ?_; refine Lc (h := by exact (fun w hw => l09Is_c (ri ha w hw) hm hl0 hs)) (k' := ?_)) | refine L (h := q_lbA (by first | exact .head _ | exact .tail _ (.head _)) rfl (by kernel_rfl)) ?_ | refine L (h := q_lb (hx := rfl) (hm := (by first | exact .head _ | exact .tail _ (.head _) | exact .tail _ (.tail _ (.head _)) | exact .tail _ (.tail _ (.tail _ (.head _))) | exact .tail _ (.tail _ (.tail _ (.tail _ (.head _)))))) (ht := by kernel_rfl) (hv := by rfl)) ?_ | (refine Lb ?_; intro _) | (refine Lsn eI 2 8 ?_; intro _) | refine Lif rfl rfl rfl (fun hc => ?_) (fun hc => ?_) | refine Lne rfl rfl (fun hc => ?_) (fun hc => ?_)) | (refine isS ?_; first | refine S ?_ | refine qs_skip rfl rfl ?_ | (refine isFS 59 ?_; refine Sc (h := by exact (fun w hw => l09Is_c (ri ha w hw) hm hl0 hs)) (k' := ?_)) | refine S (h := q_lbA (by first | exact .head _ | exact .tail _ (.head _)) rfl (by kernel_rfl)) ?_ | refine S (h := q_lb (hx := rfl) (hm := (by first | exact .head _ | exact .tail _ (.head _) | exact .tail _ (.tail _ (.head _)) | exact .tail _ (.tail _ (.tail _ (.head _))) | exact .tail _ (.tail _ (.tail _ (.tail _ (.head _)))))) (ht := by kernel_rfl) (hv := by rfl)) ?_ | refine Sif rfl rfl rfl (fun hc => ?_) (fun hc => ?_) | refine Sne rfl rfl (fun hc => ?_) (fun hc => ?_)))
    refine g_wh (α := Nat × Option Addr × Nat) (fun s => s.1 ≤ sh.length ∧ ((sh.take s.1).map Prod.fst).length ≤ s.2.2 ∧ ∀ j, j < s.1 → 0 ≤ (sh.getD j (0, 0)).2 ∧ (sh.getD j (0, 0)).2 ≤ 2)
      (fun s => [(1, .slice B sh.length c'), (2, .pointer (some ⟨_, 0, none⟩)), (5, .slice s.2.1 ((sh.take s.1).map Prod.fst).length s.2.2), (6, .int .i64 s.1)])
      (fun s => [rI s.2.1 s.2.2 ((sh.take s.1).map Prod.fst), blk _ (cellsL (.agg #[.int .i64 W, .int .i64 H, .slice A m c])) 30]) (fun s => sh.length - s.1) (0, _, _) ⟨by omega, by simp, by omega⟩ ?_
    rintro ⟨k, A1, c1⟩ ⟨hk, hcap, hinv⟩ IH
    dsimp only at hk hcap hinv IH ⊢
    have ec : sh.getD k (0, 0) = sh.getD (k : Int).toNat eShot.zero := by rw [Int.toNat_natCast]; rfl
    have hlt : ((sh.take k).map Prod.fst).length = k := by rw [List.length_map, List.length_take]; omega
    repeat' (first | refine g_seq ?_ | refine g_list ?_ | refine gD ?_ | (refine isAS ?_; first | refine a_q ?_ | refine a_f1 ?_ | refine a_f2 ?_ | refine a_nil ?_) | (refine isAF ?_; first | refine afin1 ?_ | refine afin2 ?_) | refine qs_nil ?_ | refine ls_nil ?_ | refine g_block ?_ | refine g_then rfl ?_ | refine g_else rfl ?_ | refine g_skip ?_ | refine g_inBlock ?_ | refine g_exit rfl ?_ | (refine isL ?_; first | refine L ?_ | refine ls_skip rfl rfl ?_ | (refine isF 62 ?_; refine Lcb (h := by exact (fun w hw => l09Different_c (ro (.head _) w hw) rfl (by omega) h.1 h.2.1 h.2.2.1 h.2.2.2.1 rfl)) (kt := fun hc => ?_) (kf := fun hc => ?_)) | (refine isF 61 ?_; refine Lcb (h := by exact (fun w _ => l01In_c rfl w)) (kt := fun hc => ?_) (kf := fun hc => ?_) <;> first | replace hc := of_decide_eq_true hc | replace hc := of_decide_eq_false hc) | refine L (h := q_ix (ri hb) rfl rfl (by kernel_rfl) rfl (by omega) (by omega)) ?_ | refine L (h := q_ixf (ri hb) 0 rfl (by decide +kernel) (by omega) (by omega)) ?_ | refine L (h := q_ixf (ri hb) 1 rfl (by decide +kernel) (by omega) (by omega)) ?_ | refine L (h := q_lef (ri hb) 0 rfl (by kernel_rfl) (by omega) (by omega) rfl) ?_ | refine L (h := q_lef (ri hb) 1 rfl (by kernel_rfl) (by omega) (by omega) rfl) ?_ | refine L (h := q_lbA (by first | exact .head _ | exact .tail _ (.head _)) rfl (by kernel_rfl)) ?_ | refine L (h := q_lb (hx := rfl) (hm := (by first | exact .head _ | exact .tail _ (.head _) | exact .tail _ (.tail _ (.head _)) | exact .tail _ (.tail _ (.tail _ (.head _))) | exact .tail _ (.tail _ (.tail _ (.tail _ (.head _)))))) (ht := by kernel_rfl) (hv := by rfl)) ?_ | (refine Lb ?_; intro _) | (refine Lsl 1 2 8 ?_; intro _) | (refine Lp1 0 eI 8 ((sh.getD (k : Int).toNat eShot.zero).1) ?_; intro A2 c2 hc2) | refine Lif rfl rfl rfl (fun hc => ?_) (fun hc => ?_) | refine Lne rfl rfl (fun hc => ?_) (fun hc => ?_)) | (refine isS ?_; first | refine S ?_ | refine qs_skip rfl rfl ?_ | (refine isFS 62 ?_; refine Scb (h := by exact (fun w hw => l09Different_c (ro (.head _) w hw) rfl (by omega) h.1 h.2.1 h.2.2.1 h.2.2.2.1 rfl)) (kt := fun hc => ?_) (kf := fun hc => ?_)) | (refine isFS 61 ?_; refine Scb (h := by exact (fun w _ => l01In_c rfl w)) (kt := fun hc => ?_) (kf := fun hc => ?_) <;> first | replace hc := of_decide_eq_true hc | replace hc := of_decide_eq_false hc) | refine S (h := q_ix (ri hb) rfl rfl (by kernel_rfl) rfl (by omega) (by omega)) ?_ | refine S (h := q_ixf (ri hb) 0 rfl (by decide +kernel) (by omega) (by omega)) ?_ | refine S (h := q_ixf (ri hb) 1 rfl (by decide +kernel) (by omega) (by omega)) ?_ | refine S (h := q_lef (ri hb) 0 rfl (by kernel_rfl) (by omega) (by omega) rfl) ?_ | refine S (h := q_lef (ri hb) 1 rfl (by kernel_rfl) (by omega) (by omega) rfl) ?_ | refine S (h := q_lbA (by first | exact .head _ | exact .tail _ (.head _)) rfl (by kernel_rfl)) ?_ | refine S (h := q_lb (hx := rfl) (hm := (by first | exact .head _ | exact .tail _ (.head _) | exact .tail _ (.tail _ (.head _)) | exact .tail _ (.tail _ (.tail _ (.head _))) | exact .tail _ (.tail _ (.tail _ (.tail _ (.head _)))))) (ht := by kernel_rfl) (hv := by rfl)) ?_ | refine Sif rfl rfl rfl (fun hc => ?_) (fun hc => ?_) | refine Sne rfl rfl (fun hc => ?_) (fun hc => ?_)))
    all_goals first
      | (have key : (sh.take (k + 1)).map Prod.fst = (sh.take k).map Prod.fst ++ [(sh.getD (k : Int).toNat eShot.zero).1] := by
           rw [List.take_succ_eq_append_getElem (by omega), List.map_append, ← ec]
           simp [show k < sh.length by omega]
         have IH' := IH (k + 1, A2, c2) ⟨by omega, by rw [key]; exact hc2, fun j hj => by
           rcases Nat.lt_or_ge j k with h | h
           · exact hinv j h
           · obtain rfl : j = k := by omega
             rw [ec]; assumption⟩ (by dsimp only; omega)
         dsimp only at IH'
         rw [key] at IH'
         exact g_go IH')
      | (refine g_r1 Try.func35 ?_
         rw [if_neg (fun hh => by have h3 := hh.1 k (by omega); rw [ec] at h3; omega)])
      | (obtain rfl : k = sh.length := by omega
         rw [List.take_length] at hc
         refine g_r1 Try.func35 ?_
         cases hd : difS W H (sh.map Prod.fst) with
         | true =>
           rw [hd] at hc
           first
           | (cases hc; done)
           | rw [if_pos ⟨hinv, rfl⟩]
         | false =>
           rw [hd] at hc
           first
           | (cases hc; done)
           | rw [if_neg (fun hh => Bool.false_ne_true hh.2)])
  · have hs' : seaS W H ships = false := by simpa using hs
    rw [if_neg hs]
    refine enter Try.func35 rfl rfl rfl ?_
    repeat' (first | refine g_seq ?_ | refine g_list ?_ | refine gD ?_ | (refine isAS ?_; first | refine a_q ?_ | refine a_f1 ?_ | refine a_f2 ?_ | refine a_nil ?_) | (refine isAF ?_; first | refine afin1 ?_ | refine afin2 ?_) | refine qs_nil ?_ | refine ls_nil ?_ | refine g_block ?_ | refine g_then rfl ?_ | refine g_else rfl ?_ | refine g_skip ?_ | refine g_inBlock ?_ | refine g_exit rfl ?_ | (refine isL ?_; first | refine L ?_ | refine ls_skip rfl rfl ?_ | (refine isF 59 ?_; refine Lc (h := by exact (fun w hw => l09Is_c (ri ha w hw) hm hl0 hs')) (k' := ?_)) | refine L (h := q_lbA (by first | exact .head _ | exact .tail _ (.head _)) rfl (by kernel_rfl)) ?_ | refine L (h := q_lb (hx := rfl) (hm := (by first | exact .head _ | exact .tail _ (.head _) | exact .tail _ (.tail _ (.head _)) | exact .tail _ (.tail _ (.tail _ (.head _))) | exact .tail _ (.tail _ (.tail _ (.tail _ (.head _)))))) (ht := by kernel_rfl) (hv := by rfl)) ?_ | (refine Lb ?_; intro _) | refine Lif rfl rfl rfl (fun hc => ?_) (fun hc => ?_) | refine Lne rfl rfl (fun hc => ?_) (fun hc => ?_)) | (refine isS ?_; first | refine S ?_ | refine qs_skip rfl rfl ?_ | (refine isFS 59 ?_; refine Sc (h := by exact (fun w hw => l09Is_c (ri ha w hw) hm hl0 hs')) (k' := ?_)) | refine S (h := q_lbA (by first | exact .head _ | exact .tail _ (.head _)) rfl (by kernel_rfl)) ?_ | refine S (h := q_lb (hx := rfl) (hm := (by first | exact .head _ | exact .tail _ (.head _) | exact .tail _ (.tail _ (.head _)) | exact .tail _ (.tail _ (.tail _ (.head _))) | exact .tail _ (.tail _ (.tail _ (.tail _ (.head _)))))) (ht := by kernel_rfl) (hv := by rfl)) ?_ | refine Sif rfl rfl rfl (fun hc => ?_) (fun hc => ?_) | refine Sne rfl rfl (fun hc => ?_) (fun hc => ?_)))
    all_goals exact g_r1 Try.func35 rfl
end Go.Proofs.Ytcjokckidpophaa
