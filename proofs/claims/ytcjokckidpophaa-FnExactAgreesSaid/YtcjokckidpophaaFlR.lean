/- The fleet: areShots, Agrees. -/
import Derived.Test.YtcjokckidpophaaGRes
import Derived.Test.YtcjokckidpophaaFlQ
set_option linter.all false
namespace Go.Proofs.Ytcjokckidpophaa
open Go.RowKit Go.G
set_option maxHeartbeats 2000000
def areShS (W H : Int) (sh : List (Int × Int)) : Bool := decide ((∀ k, k < sh.length → 0 ≤ (sh.getD k (0, 0)).2 ∧ (sh.getD k (0, 0)).2 ≤ 2) ∧ difS W H (sh.map Prod.fst) = true)
theorem areShots_c {A B : Option Addr} {m m' c c' : Nat} {W H : Int} {sh : List (Int × Int)} {w : World} (hb : RdA (Kd.of eShot) w B sh) (hm' : m' = sh.length) (hl : sh.length ≤ 1099511627776)
    (hW0 : 1 ≤ W) (hW : W ≤ 5) (hH0 : 1 ≤ H) (hH : H ≤ 5) {b : Bool} (hr : areShS W H sh = b) :
    RetV Try.prog 40 [.agg #[.int .i64 W, .int .i64 H, .slice A m c], .slice B m' c'] w (.bool b) := by
  subst hr hm'
  refine enter Try.func40 rfl rfl rfl ?_
  repeat' (first | refine g_seq ?_ | refine g_list ?_ | refine gD ?_ | (refine isAS ?_; first | refine a_q ?_ | refine a_f1 ?_ | refine a_f2 ?_ | refine a_nil ?_) | (refine isAF ?_; first | refine afin1 ?_ | refine afin2 ?_) | refine qs_nil ?_ | refine ls_nil ?_ | refine g_block ?_ | refine g_then rfl ?_ | refine g_else rfl ?_ | refine g_skip ?_ | refine g_inBlock ?_ | refine g_exit rfl ?_ | (refine isL ?_; first | refine L ?_ | refine ls_skip rfl rfl ?_ | refine L (h := q_lb (hx := rfl) (hm := (by first | exact .head _ | exact .tail _ (.head _) | exact .tail _ (.tail _ (.head _)) | exact .tail _ (.tail _ (.tail _ (.head _))) | exact .tail _ (.tail _ (.tail _ (.tail _ (.head _)))))) (ht := by kernel_rfl) (hv := by rfl)) ?_ | (refine Lb ?_; intro _) | (refine Lsn eI 2 8 ?_; intro _) | refine Lif rfl rfl rfl (fun hc => ?_) (fun hc => ?_) | refine Lne rfl rfl (fun hc => ?_) (fun hc => ?_)) | (refine isS ?_; first | refine S ?_ | refine qs_skip rfl rfl ?_ | refine S (h := q_lb (hx := rfl) (hm := (by first | exact .head _ | exact .tail _ (.head _) | exact .tail _ (.tail _ (.head _)) | exact .tail _ (.tail _ (.tail _ (.head _))) | exact .tail _ (.tail _ (.tail _ (.tail _ (.head _)))))) (ht := by kernel_rfl) (hv := by rfl)) ?_ | refine Sif rfl rfl rfl (fun hc => ?_) (fun hc => ?_) | refine Sne rfl rfl (fun hc => ?_) (fun hc => ?_)))
  refine g_wh (α := Nat × Option Addr × Nat) (fun s => s.1 ≤ sh.length ∧ ((sh.take s.1).map Prod.fst).length ≤ s.2.2 ∧ ∀ j, j < s.1 → 0 ≤ (sh.getD j (0, 0)).2 ∧ (sh.getD j (0, 0)).2 ≤ 2)
    (fun s => [(2, .pointer (some ⟨_, 0, none⟩)), (5, .slice s.2.1 ((sh.take s.1).map Prod.fst).length s.2.2), (9, .slice B sh.length c'), (10, .int .i64 sh.length), (11, .int .i64 s.1)])
    (fun s => [rI s.2.1 s.2.2 ((sh.take s.1).map Prod.fst), blk _ (cellsL (.agg #[.int .i64 W, .int .i64 H, .slice A m c])) 30]) (fun s => sh.length - s.1) (0, _, _) ⟨by omega, by simp, by omega⟩ ?_
  rintro ⟨k, A1, c1⟩ ⟨hk, hcap, hinv⟩ IH
  dsimp only at hk hcap hinv IH ⊢
  have ec : sh.getD k (0, 0) = sh.getD (k : Int).toNat eShot.zero := by rw [Int.toNat_natCast]; rfl
  have hlt : ((sh.take k).map Prod.fst).length = k := by rw [List.length_map, List.length_take]; omega
  repeat' (first | refine g_seq ?_ | refine g_list ?_ | refine gD ?_ | (refine isAS ?_; first | refine a_q ?_ | refine a_f1 ?_ | refine a_f2 ?_ | refine a_nil ?_) | (refine isAF ?_; first | refine afin1 ?_ | refine afin2 ?_) | refine qs_nil ?_ | refine ls_nil ?_ | refine g_block ?_ | refine g_then rfl ?_ | refine g_else rfl ?_ | refine g_skip ?_ | refine g_inBlock ?_ | refine g_exit rfl ?_ | (refine isL ?_; first | refine L ?_ | refine ls_skip rfl rfl ?_ | (refine isF 68 ?_; refine Lcb (h := by exact (fun w hw => areCells_c (ro (.head _) w hw) rfl (by omega) hW0 hW hH0 hH rfl)) (kt := fun hc => ?_) (kf := fun hc => ?_)) | (refine isF 63 ?_; refine Lcb (h := by exact (fun w _ => within_c rfl w)) (kt := fun hc => ?_) (kf := fun hc => ?_) <;> first | replace hc := of_decide_eq_true hc | replace hc := of_decide_eq_false hc) | refine L (h := q_ix (ri hb) rfl rfl (by kernel_rfl) rfl (by omega) (by omega)) ?_ | refine L (h := q_leA (ri hb) rfl (by kernel_rfl) (by omega) (by omega)) ?_ | refine L (h := q_lbB 3 (by first | exact .head _ | exact .tail _ (.head _) | exact .tail _ (.tail _ (.head _))) rfl (by decide +kernel) rfl) ?_ | refine L (h := q_lb (hx := rfl) (hm := (by first | exact .head _ | exact .tail _ (.head _) | exact .tail _ (.tail _ (.head _)) | exact .tail _ (.tail _ (.tail _ (.head _))) | exact .tail _ (.tail _ (.tail _ (.tail _ (.head _)))))) (ht := by kernel_rfl) (hv := by rfl)) ?_ | (refine Lb ?_; intro _) | (refine La (.agg #[.int .i64 0, .int .i64 0]) ?_; intro _) | refine Lst 0 ?_ | (refine Lsl 1 2 8 ?_; intro _) | (refine Lp1 1 eI 8 ((sh.getD (k : Int).toNat eShot.zero).1) ?_; intro A2 c2 hc2) | refine Lif rfl rfl rfl (fun hc => ?_) (fun hc => ?_) | refine Lne rfl rfl (fun hc => ?_) (fun hc => ?_)) | (refine isS ?_; first | refine S ?_ | refine qs_skip rfl rfl ?_ | (refine isFS 68 ?_; refine Scb (h := by exact (fun w hw => areCells_c (ro (.head _) w hw) rfl (by omega) hW0 hW hH0 hH rfl)) (kt := fun hc => ?_) (kf := fun hc => ?_)) | (refine isFS 63 ?_; refine Scb (h := by exact (fun w _ => within_c rfl w)) (kt := fun hc => ?_) (kf := fun hc => ?_) <;> first | replace hc := of_decide_eq_true hc | replace hc := of_decide_eq_false hc) | refine S (h := q_ix (ri hb) rfl rfl (by kernel_rfl) rfl (by omega) (by omega)) ?_ | refine S (h := q_leA (ri hb) rfl (by kernel_rfl) (by omega) (by omega)) ?_ | refine S (h := q_lbB 3 (by first | exact .head _ | exact .tail _ (.head _) | exact .tail _ (.tail _ (.head _))) rfl (by decide +kernel) rfl) ?_ | refine S (h := q_lb (hx := rfl) (hm := (by first | exact .head _ | exact .tail _ (.head _) | exact .tail _ (.tail _ (.head _)) | exact .tail _ (.tail _ (.tail _ (.head _))) | exact .tail _ (.tail _ (.tail _ (.tail _ (.head _)))))) (ht := by kernel_rfl) (hv := by rfl)) ?_ | refine Sif rfl rfl rfl (fun hc => ?_) (fun hc => ?_) | refine Sne rfl rfl (fun hc => ?_) (fun hc => ?_)))
  all_goals first
    | (have key : (sh.take (k + 1)).map Prod.fst = (sh.take k).map Prod.fst ++ [(sh.getD (k : Int).toNat eShot.zero).1] := by
         rw [List.take_succ_eq_append_getElem (by omega), List.map_append, ← ec]
         simp [show k < sh.length by omega]
       have IH' := IH (k + 1, A2, c2) ⟨by omega, by rw [key]; exact hc2, fun j hj => by
         rcases Nat.lt_or_ge j k with h | h
         · exact hinv j h
         · obtain rfl : j = k := by omega
           rw [ec]; assumption⟩ (by dsimp only; omega)
       dsimp only at IH'
       rw [key] at IH'
       exact g_go IH')
    | (refine g_r1 Try.func40 ?_
       rw [areShS, decide_eq_false (fun hh => by have h3 := hh.1 k (by omega); rw [ec] at h3; omega)])
    | (obtain rfl : k = sh.length := by omega
       rw [List.take_length] at hc
       refine g_r1 Try.func40 ?_
       congr 1
       clear IH
       first
       | (simp [areShS, hc]; done)
       | simpa [areShS, hc] using hinv)
def agreesS (W H : Int) (ships fleet : List Int) (sh : List (Int × Int)) : Value :=
  if codeS W H ships fleet = 0 then (if shotsS W H ships sh = 0 then .tuple #[.bool (agr fleet 0 sh), .int .i64 0] else .tuple #[.bool false, .int .i64 (shotsS W H ships sh)]) else .tuple #[.bool false, .int .i64 (codeS W H ships fleet)]
theorem cells_of_dif {W H : Int} {sh : List (Int × Int)} (hWH : W * H ≤ 64) (h : difS W H (sh.map Prod.fst) = true) : ∀ k, k < sh.length → 0 ≤ (sh.getD k (0, 0)).1 ∧ (sh.getD k (0, 0)).1 < 64 := by
  intro k hk
  have h1 := ((difS_iff hWH).1 h).1 (sh.getD k (0, 0)).1 (List.mem_map.2 ⟨_, by simp [hk], rfl⟩)
  omega
theorem cells_of_shots {W H : Int} {ships : List Int} {sh : List (Int × Int)} (h : shotsS W H ships sh = 0) : ∀ k, k < sh.length → 0 ≤ (sh.getD k (0, 0)).1 ∧ (sh.getD k (0, 0)).1 < 64 := by
  unfold shotsS at h
  split at h
  · rename_i hs
    have h2 := of_decide_eq_true hs
    have hWH := mul_bounds (a := W) (b := H) (by omega) (by omega) (by omega) (by omega)
    split at h
    · rename_i h3; exact cells_of_dif (by
        have h5 : W * H ≤ 5 * 5 := Int.mul_le_mul (by omega) (by omega) (by omega) (by omega)
        omega) h3.2
    · omega
  · omega
theorem AgreesS_c {A B D : Option Addr} {m m1 m2 c c1 c2 : Nat} {W H : Int} {ships fleet : List Int} {sh : List (Int × Int)} {w : World} (ha : RdA kI w A ships) (hm : m = ships.length) (hl0 : ships.length ≤ 9223372036854775807)
    (hb : RdA kI w B fleet) (hm1 : m1 = fleet.length) (hl1 : fleet.length ≤ 1099511627776) (hd : RdA (Kd.of eShot) w D sh) (hm2 : m2 = sh.length) (hl2 : sh.length ≤ 1099511627776) {v : Value} (hv : agreesS W H ships fleet sh = v) :
    RetV Try.prog 11 [.agg #[.int .i64 W, .int .i64 H, .slice A m c], .slice B m1 c1, .slice D m2 c2] w v := by
  subst hv
  subst hm1 hm2
  refine enter Try.func11 rfl rfl rfl ?_
  repeat' (first | refine g_seq ?_ | refine g_list ?_ | refine gD ?_ | (refine isAS ?_; first | refine a_q ?_ | refine a_f1 ?_ | refine a_f2 ?_ | refine a_nil ?_) | (refine isAF ?_; first | refine afin1 ?_ | refine afin2 ?_) | refine qs_nil ?_ | refine ls_nil ?_ | refine g_block ?_ | refine g_then rfl ?_ | refine g_else rfl ?_ | refine g_skip ?_ | refine g_inBlock ?_ | refine g_exit rfl ?_ | (refine isL ?_; first | refine L ?_ | refine ls_skip rfl rfl ?_ | (refine isF 34 ?_; refine Lc (h := by exact (fun w hw => l09Code_c (ri ha w hw) hm hl0 (ri hb w hw) rfl hl1 rfl)) (k' := ?_)) | (refine isF 35 ?_; refine Lc (h := by exact (fun w hw => l09Shots_c (ri ha w hw) hm hl0 (ri hd w hw) rfl hl2 rfl)) (k' := ?_)) | (refine isF 36 ?_; refine Lc (h := by exact (fun w hw => l09Agrees_c _ _ _ _ _ _ w (ri hb w hw) (by omega) (ri hd w hw) (by omega) (fun k hk => by have := cells_of_shots (by assumption) k hk; omega) rfl)) (k' := ?_)) | refine L (h := q_lbB 3 (by first | exact .head _ | exact .tail _ (.head _) | exact .tail _ (.tail _ (.head _))) rfl (by decide +kernel) rfl) ?_ | refine L (h := q_lb (hx := rfl) (hm := (by first | exact .head _ | exact .tail _ (.head _) | exact .tail _ (.tail _ (.head _)) | exact .tail _ (.tail _ (.tail _ (.head _))) | exact .tail _ (.tail _ (.tail _ (.tail _ (.head _)))))) (ht := by kernel_rfl) (hv := by rfl)) ?_ | (refine Lb ?_; intro _) | refine Lif rfl rfl rfl (fun hc => ?_) (fun hc => ?_) | refine Lne rfl rfl (fun hc => ?_) (fun hc => ?_)) | (refine isS ?_; first | refine S ?_ | refine qs_skip rfl rfl ?_ | (refine isFS 34 ?_; refine Sc (h := by exact (fun w hw => l09Code_c (ri ha w hw) hm hl0 (ri hb w hw) rfl hl1 rfl)) (k' := ?_)) | (refine isFS 35 ?_; refine Sc (h := by exact (fun w hw => l09Shots_c (ri ha w hw) hm hl0 (ri hd w hw) rfl hl2 rfl)) (k' := ?_)) | (refine isFS 36 ?_; refine Sc (h := by exact (fun w hw => l09Agrees_c _ _ _ _ _ _ w (ri hb w hw) (by omega) (ri hd w hw) (by omega) (fun k hk => by have := cells_of_shots (by assumption) k hk; omega) rfl)) (k' := ?_)) | refine S (h := q_lbB 3 (by first | exact .head _ | exact .tail _ (.head _) | exact .tail _ (.tail _ (.head _))) rfl (by decide +kernel) rfl) ?_ | refine S (h := q_lb (hx := rfl) (hm := (by first | exact .head _ | exact .tail _ (.head _) | exact .tail _ (.tail _ (.head _)) | exact .tail _ (.tail _ (.tail _ (.head _))) | exact .tail _ (.tail _ (.tail _ (.tail _ (.head _)))))) (ht := by kernel_rfl) (hv := by rfl)) ?_ | refine Sif rfl rfl rfl (fun hc => ?_) (fun hc => ?_) | refine Sne rfl rfl (fun hc => ?_) (fun hc => ?_)))
  all_goals
    refine g_r2 Try.func11 ?_
    rw [agreesS]
    first
    | rw [if_neg (by assumption)]
    | rw [if_pos (by assumption), if_neg (by assumption)]
    | rw [if_pos (by assumption), if_pos (by assumption)]
theorem shots_are {W H : Int} {ships : List Int} {sh : List (Int × Int)} (hs : seaS W H ships = true) : shotsS W H ships sh = if areShS W H sh = true then 0 else 2 := by
  unfold shotsS areShS; rw [if_pos hs]; simp only [decide_eq_true_eq]
theorem code_is {W H : Int} {ships fleet : List Int} (hs : seaS W H ships = true) : codeS W H ships fleet = if flS W H ships fleet = true then 0 else 2 := by
  unfold codeS; rw [if_pos hs]
theorem agreesS_shape (W H : Int) (ships fleet : List Int) (sh : List (Int × Int)) : ∃ b r, agreesS W H ships fleet sh = .tuple #[.bool b, .int .i64 r] := by
  unfold agreesS; split
  · split <;> exact ⟨_, _, rfl⟩
  · exact ⟨_, _, rfl⟩
theorem AgreesI_c {A B D : Option Addr} {m m1 m2 c c1 c2 : Nat} {W H : Int} {ships fleet : List Int} {sh : List (Int × Int)} {w : World} (ha : RdA kI w A ships) (hm : m = ships.length) (hl0 : ships.length ≤ 9223372036854775807)
    (hb : RdA kI w B fleet) (hm1 : m1 = fleet.length) (hl1 : fleet.length ≤ 1099511627776) (hcap : fleet.length ≤ c1) (hd : RdA (Kd.of eShot) w D sh) (hm2 : m2 = sh.length) (hl2 : sh.length ≤ 1099511627776) {v : Value} (hv : agreesS W H ships fleet sh = v) :
    RetV Try.prog 15 [.agg #[.int .i64 W, .int .i64 H, .slice A m c], .slice B m1 c1, .slice D m2 c2] w v := by
  subst hv
  subst hm hm1 hm2
  by_cases hs : seaS W H ships = true
  · have h := of_decide_eq_true hs
    have hsh : ships.length ≤ 3 ∧ ∀ j, j < ships.length → 1 ≤ ships.getD j 0 ∧ ships.getD j 0 ≤ 5 := ⟨by omega, fun j hj => ⟨(h.2.2.2.2.2.2 j hj).1, (h.2.2.2.2.2.2 j hj).2.1⟩⟩
    have hWH := mul_bounds (a := W) (b := H) (by omega) (by omega) (by omega) (by omega)
    have h25 : W * H ≤ 64 := by
      have h5 : W * H ≤ 5 * 5 := Int.mul_le_mul (by omega) (by omega) (by omega) (by omega)
      omega
    have e1 := isFl_flS (fleet := fleet) h.1 h.2.1 h.2.2.2.1 hsh.2
    refine enter Try.func15 rfl rfl rfl ?_
    repeat' (first | refine g_seq ?_ | refine g_list ?_ | refine gD ?_ | (refine isAS ?_; first | refine a_q ?_ | refine a_f1 ?_ | refine a_f2 ?_ | refine a_nil ?_) | (refine isAF ?_; first | refine afin1 ?_ | refine afin2 ?_) | refine qs_nil ?_ | refine ls_nil ?_ | refine g_block ?_ | refine g_then rfl ?_ | refine g_else rfl ?_ | refine g_skip ?_ | refine g_inBlock ?_ | refine g_exit rfl ?_ | (refine isL ?_; first | refine L ?_ | refine ls_skip rfl rfl ?_ | (refine isF 38 ?_; refine Lc (h := by exact (fun w hw => IsSea_c _ _ _ _ _ w (ri ha w hw) hl0 hs)) (k' := ?_)) | (refine isF 41 ?_; refine Lc (h := by exact (fun w hw => agrees_c _ _ _ _ _ _ w (ri hb w hw) (by omega) (ri hd w hw) (by omega) (fun k hk => (cells_of_dif h25 (of_decide_eq_true hc).2 k hk).1) rfl)) (k' := ?_)) | (refine isF 39 ?_; refine Lcb (h := by exact (fun w hw => isFleet_c (ri ha w hw) rfl (ri hb w hw) rfl hl1 hcap h.1 h.2.1 h.2.2.1 h.2.2.2.1 hsh rfl)) (kt := fun hc => ?_) (kf := fun hc => ?_)) | (refine isF 40 ?_; refine Lcb (h := by exact (fun w hw => areShots_c (ri hd w hw) rfl hl2 h.1 h.2.1 h.2.2.1 h.2.2.2.1 rfl)) (kt := fun hc => ?_) (kf := fun hc => ?_)) | refine L (h := q_lbB 3 (by first | exact .head _ | exact .tail _ (.head _) | exact .tail _ (.tail _ (.head _))) rfl (by decide +kernel) rfl) ?_ | refine L (h := q_lb (hx := rfl) (hm := (by first | exact .head _ | exact .tail _ (.head _) | exact .tail _ (.tail _ (.head _)) | exact .tail _ (.tail _ (.tail _ (.head _))) | exact .tail _ (.tail _ (.tail _ (.tail _ (.head _)))))) (ht := by kernel_rfl) (hv := by rfl)) ?_ | (refine Lb ?_; intro _) | refine Lif rfl rfl rfl (fun hc => ?_) (fun hc => ?_) | refine Lne rfl rfl (fun hc => ?_) (fun hc => ?_)) | (refine isS ?_; first | refine S ?_ | refine qs_skip rfl rfl ?_ | (refine isFS 38 ?_; refine Sc (h := by exact (fun w hw => IsSea_c _ _ _ _ _ w (ri ha w hw) hl0 hs)) (k' := ?_)) | (refine isFS 41 ?_; refine Sc (h := by exact (fun w hw => agrees_c _ _ _ _ _ _ w (ri hb w hw) (by omega) (ri hd w hw) (by omega) (fun k hk => (cells_of_dif h25 (of_decide_eq_true hc).2 k hk).1) rfl)) (k' := ?_)) | (refine isFS 39 ?_; refine Scb (h := by exact (fun w hw => isFleet_c (ri ha w hw) rfl (ri hb w hw) rfl hl1 hcap h.1 h.2.1 h.2.2.1 h.2.2.2.1 hsh rfl)) (kt := fun hc => ?_) (kf := fun hc => ?_)) | (refine isFS 40 ?_; refine Scb (h := by exact (fun w hw => areShots_c (ri hd w hw) rfl hl2 h.1 h.2.1 h.2.2.1 h.2.2.2.1 rfl)) (kt := fun hc => ?_) (kf := fun hc => ?_)) | refine S (h := q_lbB 3 (by first | exact .head _ | exact .tail _ (.head _) | exact .tail _ (.tail _ (.head _))) rfl (by decide +kernel) rfl) ?_ | refine S (h := q_lb (hx := rfl) (hm := (by first | exact .head _ | exact .tail _ (.head _) | exact .tail _ (.tail _ (.head _)) | exact .tail _ (.tail _ (.tail _ (.head _))) | exact .tail _ (.tail _ (.tail _ (.tail _ (.head _)))))) (ht := by kernel_rfl) (hv := by rfl)) ?_ | refine Sif rfl rfl rfl (fun hc => ?_) (fun hc => ?_) | refine Sne rfl rfl (fun hc => ?_) (fun hc => ?_)))
    all_goals
      refine g_r2 Try.func15 ?_
      rw [agreesS, code_is hs, shots_are hs, ← e1]; clear e1
      simp [*]
  · have hs' : seaS W H ships = false := by simpa using hs
    refine enter Try.func15 rfl rfl rfl ?_
    repeat' (first | refine g_seq ?_ | refine g_list ?_ | refine gD ?_ | (refine isAS ?_; first | refine a_q ?_ | refine a_f1 ?_ | refine a_f2 ?_ | refine a_nil ?_) | (refine isAF ?_; first | refine afin1 ?_ | refine afin2 ?_) | refine qs_nil ?_ | refine ls_nil ?_ | refine g_block ?_ | refine g_then rfl ?_ | refine g_else rfl ?_ | refine g_skip ?_ | refine g_inBlock ?_ | refine g_exit rfl ?_ | (refine isL ?_; first | refine L ?_ | refine ls_skip rfl rfl ?_ | (refine isF 38 ?_; refine Lc (h := by exact (fun w hw => IsSea_c _ _ _ _ _ w (ri ha w hw) hl0 hs')) (k' := ?_)) | refine L (h := q_lbB 3 (by first | exact .head _ | exact .tail _ (.head _) | exact .tail _ (.tail _ (.head _))) rfl (by decide +kernel) rfl) ?_ | refine L (h := q_lb (hx := rfl) (hm := (by first | exact .head _ | exact .tail _ (.head _) | exact .tail _ (.tail _ (.head _)) | exact .tail _ (.tail _ (.tail _ (.head _))) | exact .tail _ (.tail _ (.tail _ (.tail _ (.head _)))))) (ht := by kernel_rfl) (hv := by rfl)) ?_ | (refine Lb ?_; intro _) | refine Lif rfl rfl rfl (fun hc => ?_) (fun hc => ?_) | refine Lne rfl rfl (fun hc => ?_) (fun hc => ?_)) | (refine isS ?_; first | refine S ?_ | refine qs_skip rfl rfl ?_ | (refine isFS 38 ?_; refine Sc (h := by exact (fun w hw => IsSea_c _ _ _ _ _ w (ri ha w hw) hl0 hs')) (k' := ?_)) | refine S (h := q_lbB 3 (by first | exact .head _ | exact .tail _ (.head _) | exact .tail _ (.tail _ (.head _))) rfl (by decide +kernel) rfl) ?_ | refine S (h := q_lb (hx := rfl) (hm := (by first | exact .head _ | exact .tail _ (.head _) | exact .tail _ (.tail _ (.head _)) | exact .tail _ (.tail _ (.tail _ (.head _))) | exact .tail _ (.tail _ (.tail _ (.tail _ (.head _)))))) (ht := by kernel_rfl) (hv := by rfl)) ?_ | refine Sif rfl rfl rfl (fun hc => ?_) (fun hc => ?_) | refine Sne rfl rfl (fun hc => ?_) (fun hc => ?_)))
    all_goals
      refine g_r2 Try.func15 ?_
      rw [agreesS, codeS, if_neg hs]; rfl
end Go.Proofs.Ytcjokckidpophaa
