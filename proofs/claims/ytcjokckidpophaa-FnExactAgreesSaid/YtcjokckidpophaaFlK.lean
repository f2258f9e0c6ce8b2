/- The fleet: goesOn, isFleet of the program. -/
import Derived.Test.YtcjokckidpophaaFlJ
set_option linter.all false
namespace Go.Proofs.Ytcjokckidpophaa
open Go.RowKit Go.G
set_option maxHeartbeats 2000000
theorem pts_ext {w w' : World} {p v : Value} (h : pts w p v) (e : Ext w w') : pts w' p v := by
  obtain ⟨a, rfl, h⟩ := h
  exact ⟨a, rfl, e.cell h⟩
/-- no ship of a list shares a cell with this one -/
def noHit (list : List Int) (own : Int) : Bool := !(list.any fun x => !decide (bits .and .i64 x own = 0))
def gOn (ships list : List Int) (own : Int) : Bool := if 0 < list.length ∧ ships.getD list.length 0 = ships.getD (list.length - 1) 0 ∧ own ≤ list.getD (list.length - 1) 0 then false else noHit list own
theorem hit_c {B : Option Addr} {m' c' b : Nat} {own : Int} {T : TypeId} {list : List Int} {w0 w : World} {bs : List Asn} (hw : cls w0 (blk b (cellsL (.int .i64 own)) T :: bs) w) (hb : RdA kI w B list) (hm' : m' = list.length) (hl : list.length ≤ 9223372036854775807) :
    RetV Try.prog 87 [.slice B m' c', .func (.func 88) #[] #[.pointer (some ⟨b, 0, none⟩)]] w (.bool (list.any fun x => !decide (bits .and .i64 x own = 0))) := by
  obtain ⟨F, hF⟩ := hw.get (.head _)
  have hp : pts w (.pointer (some ⟨b, 0, none⟩)) (.int .i64 own) := blk_pts hF rfl
  refine ContainsFuncI_c (p := fun x => !decide (bits .and .i64 x own = 0)) hb hm' hl (by kernel_rfl) (fun x hx w2 h2 => ?_) rfl
  exact goesOn1_c (own := own) (x := x) (pts_ext hp h2) (Eq.refl (!decide (bits .and .i64 x own = 0)))
theorem goesOn_c {A B : Option Addr} {m m' c c' : Nat} {W H own : Int} {ships list : List Int} {w : World} (ha : RdA kI w A ships) (hm : m = ships.length) (hl : ships.length ≤ 9223372036854775807) (hb : RdA kI w B list) (hm' : m' = list.length) (hlt : list.length < ships.length)
    {b : Bool} (hr : gOn ships list own = b) : RetV Try.prog 67 [.agg #[.int .i64 W, .int .i64 H, .slice A m c], .slice B m' c', .int .i64 own] w (.bool b) := by
  subst hr hm hm'
  have e0 : ships.getD list.length 0 = ships.getD (list.length : Int).toNat 0 := by rw [Int.toNat_natCast]
  have e1 : 0 < list.length → ships.getD (list.length - 1) 0 = ships.getD ((list.length : Int) - 1).toNat 0 := fun h => by rw [show ((list.length : Int) - 1).toNat = list.length - 1 from by omega]
  have e2 : 0 < list.length → list.getD (list.length - 1) 0 = list.getD ((list.length : Int) - 1).toNat 0 := fun h => by rw [show ((list.length : Int) - 1).toNat = list.length - 1 from by omega]
  refine enter Try.func67 rfl rfl rfl ?_
  repeat' (first | refine g_seq ?_ | refine g_list ?_ | refine gD ?_ | (refine isAS ?_; first | refine a_q ?_ | refine a_f1 ?_ | refine a_f2 ?_ | refine a_nil ?_) | (refine isAF ?_; first | refine afin1 ?_ | refine afin2 ?_) | refine qs_nil ?_ | refine ls_nil ?_ | refine g_block ?_ | refine g_then rfl ?_ | refine g_else rfl ?_ | refine g_skip ?_ | refine g_inBlock ?_ | refine g_exit rfl ?_ | (refine isL ?_; first | refine L ?_ | refine ls_skip rfl rfl ?_ | (refine isF 87 ?_; refine Lc (h := by exact (fun w' hw => hit_c hw (ri hb w' hw) rfl (by omega))) (k' := ?_)) | refine L (h := q_ix (ri ha) rfl rfl (by kernel_rfl) rfl (by omega) (by omega)) ?_ | refine L (h := q_leI (ri ha) rfl (by kernel_rfl) (by omega) (by omega)) ?_ | refine L (h := q_ix (ri hb) rfl rfl (by kernel_rfl) rfl (by omega) (by omega)) ?_ | refine L (h := q_leI (ri hb) rfl (by kernel_rfl) (by omega) (by omega)) ?_ | refine L (h := q_lb (hx := rfl) (hm := (by first | exact .head _ | exact .tail _ (.head _) | exact .tail _ (.tail _ (.head _)) | exact .tail _ (.tail _ (.tail _ (.head _))) | exact .tail _ (.tail _ (.tail _ (.tail _ (.head _)))))) (ht := by kernel_rfl) (hv := by rfl)) ?_ | (refine Lb ?_; intro _) | refine Lif rfl rfl rfl (fun hc => ?_) (fun hc => ?_) | refine Lne rfl rfl (fun hc => ?_) (fun hc => ?_)) | (refine isS ?_; first | refine S ?_ | refine qs_skip rfl rfl ?_ | (refine isFS 87 ?_; refine Sc (h := by exact (fun w' hw => hit_c hw (ri hb w' hw) rfl (by omega))) (k' := ?_)) | refine S (h := q_ix (ri ha) rfl rfl (by kernel_rfl) rfl (by omega) (by omega)) ?_ | refine S (h := q_leI (ri ha) rfl (by kernel_rfl) (by omega) (by omega)) ?_ | refine S (h := q_ix (ri hb) rfl rfl (by kernel_rfl) rfl (by omega) (by omega)) ?_ | refine S (h := q_leI (ri hb) rfl (by kernel_rfl) (by omega) (by omega)) ?_ | refine S (h := q_lb (hx := rfl) (hm := (by first | exact .head _ | exact .tail _ (.head _) | exact .tail _ (.tail _ (.head _)) | exact .tail _ (.tail _ (.tail _ (.head _))) | exact .tail _ (.tail _ (.tail _ (.tail _ (.head _)))))) (ht := by kernel_rfl) (hv := by rfl)) ?_ | refine Sif rfl rfl rfl (fun hc => ?_) (fun hc => ?_) | refine Sne rfl rfl (fun hc => ?_) (fun hc => ?_)))
  all_goals
    refine g_r1 Try.func67 ?_
    rw [gOn]
    first
    | rw [if_pos ⟨by omega, by omega, by omega⟩]
    | (rw [if_neg (by omega)]; rfl)
theorem plc_len {W H n : Int} (hW : W ≤ 5) (hH : H ≤ 5) : (plc W H n).length ≤ 50 := by
  have h1 := putAll_len (rawY W H n H.toNat) []
  have h2 := rawY_len W H n hW H.toNat
  simp only [List.length_nil] at h1
  unfold plc putAll; omega
def isFl (W H : Int) (ships fleet : List Int) : Bool := decide (fleet.length = ships.length ∧ ∀ k, k < fleet.length → fleet.getD k 0 ∈ plc W H (ships.getD k 0) ∧ gOn ships (fleet.take k) (fleet.getD k 0) = true)
theorem isFleet_c {A B : Option Addr} {m m' c c' : Nat} {W H : Int} {ships fleet : List Int} {w : World} (ha : RdA kI w A ships) (hm : m = ships.length) (hb : RdA kI w B fleet) (hm' : m' = fleet.length) (hl : fleet.length ≤ 1099511627776) (hcap : fleet.length ≤ c')
    (hW0 : 1 ≤ W) (hW : W ≤ 5) (hH0 : 1 ≤ H) (hH : H ≤ 5) (hsh : ships.length ≤ 3 ∧ ∀ j, j < ships.length → 1 ≤ ships.getD j 0 ∧ ships.getD j 0 ≤ 5) {b : Bool} (hr : isFl W H ships fleet = b) :
    RetV Try.prog 39 [.agg #[.int .i64 W, .int .i64 H, .slice A m c], .slice B m' c'] w (.bool b) := by
  subst hm hm'
  refine enter Try.func39 rfl rfl rfl ?_
  repeat' (first | refine g_seq ?_ | refine g_list ?_ | refine gD ?_ | (refine isAS ?_; first | refine a_q ?_ | refine a_f1 ?_ | refine a_f2 ?_ | refine a_nil ?_) | (refine isAF ?_; first | refine afin1 ?_ | refine afin2 ?_) | refine qs_nil ?_ | refine ls_nil ?_ | refine g_block ?_ | refine g_then rfl ?_ | refine g_else rfl ?_ | refine g_skip ?_ | refine g_inBlock ?_ | refine g_exit rfl ?_ | (refine isL ?_; first | refine L ?_ | refine ls_skip rfl rfl ?_ | refine L (h := q_lb (hx := rfl) (hm := (by first | exact .head _ | exact .tail _ (.head _) | exact .tail _ (.tail _ (.head _)) | exact .tail _ (.tail _ (.tail _ (.head _))) | exact .tail _ (.tail _ (.tail _ (.tail _ (.head _)))))) (ht := by kernel_rfl) (hv := by rfl)) ?_ | (refine Lb ?_; intro _) | refine Lif rfl rfl rfl (fun hc => ?_) (fun hc => ?_) | refine Lne rfl rfl (fun hc => ?_) (fun hc => ?_)) | (refine isS ?_; first | refine S ?_ | refine qs_skip rfl rfl ?_ | refine S (h := q_lb (hx := rfl) (hm := (by first | exact .head _ | exact .tail _ (.head _) | exact .tail _ (.tail _ (.head _)) | exact .tail _ (.tail _ (.tail _ (.head _))) | exact .tail _ (.tail _ (.tail _ (.tail _ (.head _)))))) (ht := by kernel_rfl) (hv := by rfl)) ?_ | refine Sif rfl rfl rfl (fun hc => ?_) (fun hc => ?_) | refine Sne rfl rfl (fun hc => ?_) (fun hc => ?_)))
  · refine g_r1 Try.func39 ?_
    rw [← hr, isFl, decide_eq_false (fun h => by omega)]
  refine g_wh (α := Nat) (fun k => k ≤ fleet.length ∧ ∀ j, j < k → fleet.getD j 0 ∈ plc W H (ships.getD j 0) ∧ gOn ships (fleet.take j) (fleet.getD j 0) = true)
    (fun k => [(1, .slice B fleet.length c'), (2, .pointer (some ⟨_, 0, none⟩)), (13, .slice B fleet.length c'), (14, .int .i64 fleet.length), (15, .int .i64 k)]) (fun _ => _) (fun k => fleet.length - k) 0 ⟨by omega, by omega⟩ ?_
  rintro k ⟨hk, hinv⟩ IH
  have hn : k < fleet.length → 1 ≤ ships.getD (k : Int).toNat 0 ∧ ships.getD (k : Int).toNat 0 ≤ 5 := fun h => by rw [Int.toNat_natCast]; exact hsh.2 k (by omega)
  repeat' (first | refine g_seq ?_ | refine g_list ?_ | (refine isR 6 ?_; refine g_add [(0, 0), (1, 0), (2, 0), (3, 0), (4, 0), (5, 0), (7, 0), (6, 1), (8, 0), (9, 0), (10, 0), (11, 0), (12, 0), (13, 0), (14, 0), (15, 0), (16, 0), (17, 0), (18, 0)] ?_) | refine gD ?_ | (refine isAS ?_; first | refine a_q ?_ | refine a_f1 ?_ | refine a_f2 ?_ | refine a_nil ?_) | (refine isAF ?_; first | refine afin1 ?_ | refine afin2 ?_) | refine qs_nil ?_ | refine ls_nil ?_ | refine g_block ?_ | refine g_then rfl ?_ | refine g_else rfl ?_ | refine g_skip ?_ | refine g_inBlock ?_ | refine g_exit rfl ?_ | (refine isL ?_; first | refine L ?_ | refine ls_skip rfl rfl ?_ | (refine isF 65 ?_; refine Lcb (h := by exact (fun w hw => Contains_c (ro (.head _) w hw) rfl (Nat.le_trans (plc_len hW hH) (by omega)) rfl)) (kt := fun hc => ?_) (kf := fun hc => ?_)) | (refine isF 67 ?_; refine Lcb (h := by exact (fun w hw => goesOn_c (ri ha w hw) rfl (by omega) ((ri hb w hw).take k) rfl (by rw [List.length_take]; omega) rfl)) (kt := fun hc => ?_) (kf := fun hc => ?_)) | refine L (h := q_ix (ri ha) rfl rfl (by kernel_rfl) rfl (by omega) (by omega)) ?_ | refine L (h := q_leI (ri ha) rfl (by kernel_rfl) (by omega) (by omega)) ?_ | refine L (h := q_ix (ri hb) rfl rfl (by kernel_rfl) rfl (by omega) (by omega)) ?_ | refine L (h := q_leI (ri hb) rfl (by kernel_rfl) (by omega) (by omega)) ?_ | refine L (h := q_lbA (by first | exact .head _ | exact .tail _ (.head _)) rfl (by kernel_rfl)) ?_ | refine L (h := (q_as (q_slT 1 rfl rfl (by kernel_rfl) (by omega) (by omega)) (show Value.slice B _ c' = .slice B (fleet.take k).length c' from by rw [List.length_take, Int.toNat_natCast, Nat.min_eq_left hk]))) ?_ | refine L (h := q_lb (hx := rfl) (hm := (by first | exact .head _ | exact .tail _ (.head _) | exact .tail _ (.tail _ (.head _)) | exact .tail _ (.tail _ (.tail _ (.head _))) | exact .tail _ (.tail _ (.tail _ (.tail _ (.head _)))))) (ht := by kernel_rfl) (hv := by rfl)) ?_ | (refine Lb ?_; intro _) | (refine isF 66 ?_; refine Lr (h := by exact (fun w hw => placements_c w hW0 hW hH0 hH (hn (by omega)).1 (hn (by omega)).2 (plc_eq hW0 hH0 (hn (by omega)).1))) (k' := ?_); rintro _ _ ⟨A1, c1, hc1, rfl, rfl⟩) | refine Lif rfl rfl rfl (fun hc => ?_) (fun hc => ?_) | refine Lne rfl rfl (fun hc => ?_) (fun hc => ?_)) | (refine isS ?_; first | refine S ?_ | refine qs_skip rfl rfl ?_ | (refine isFS 65 ?_; refine Scb (h := by exact (fun w hw => Contains_c (ro (.head _) w hw) rfl (Nat.le_trans (plc_len hW hH) (by omega)) rfl)) (kt := fun hc => ?_) (kf := fun hc => ?_)) | (refine isFS 67 ?_; refine Scb (h := by exact (fun w hw => goesOn_c (ri ha w hw) rfl (by omega) ((ri hb w hw).take k) rfl (by rw [List.length_take]; omega) rfl)) (kt := fun hc => ?_) (kf := fun hc => ?_)) | refine S (h := q_ix (ri ha) rfl rfl (by kernel_rfl) rfl (by omega) (by omega)) ?_ | refine S (h := q_leI (ri ha) rfl (by kernel_rfl) (by omega) (by omega)) ?_ | refine S (h := q_ix (ri hb) rfl rfl (by kernel_rfl) rfl (by omega) (by omega)) ?_ | refine S (h := q_leI (ri hb) rfl (by kernel_rfl) (by omega) (by omega)) ?_ | refine S (h := q_lbA (by first | exact .head _ | exact .tail _ (.head _)) rfl (by kernel_rfl)) ?_ | refine S (h := (q_as (q_slT 1 rfl rfl (by kernel_rfl) (by omega) (by omega)) (show Value.slice B _ c' = .slice B (fleet.take k).length c' from by rw [List.length_take, Int.toNat_natCast, Nat.min_eq_left hk]))) ?_ | refine S (h := q_lb (hx := rfl) (hm := (by first | exact .head _ | exact .tail _ (.head _) | exact .tail _ (.tail _ (.head _)) | exact .tail _ (.tail _ (.tail _ (.head _))) | exact .tail _ (.tail _ (.tail _ (.tail _ (.head _)))))) (ht := by kernel_rfl) (hv := by rfl)) ?_ | refine Sif rfl rfl rfl (fun hc => ?_) (fun hc => ?_) | refine Sne rfl rfl (fun hc => ?_) (fun hc => ?_)))
  all_goals first
    | (refine g_go (IH (k+1) ⟨by omega, fun j hj => ?_⟩ (by omega))
       rcases Nat.lt_or_ge j k with h | h
       · exact hinv j h
       · obtain rfl : j = k := by omega
         simp only [Int.toNat_natCast, decide_eq_true_eq] at *
         exact ⟨by assumption, by assumption⟩)
    | (refine g_r1 Try.func39 ?_
       rw [← hr, isFl, decide_eq_false]
       intro hh
       have h3 := hh.2 k (by omega)
       simp only [Int.toNat_natCast, decide_eq_false_iff_not] at *
       first
       | exact absurd h3.1 (by assumption)
       | (have h4 := h3.2; simp_all))
    | (refine g_r1 Try.func39 ?_
       rw [← hr, isFl, decide_eq_true]
       exact ⟨by omega, fun j hj => hinv j (by omega)⟩)
end Go.Proofs.Ytcjokckidpophaa
