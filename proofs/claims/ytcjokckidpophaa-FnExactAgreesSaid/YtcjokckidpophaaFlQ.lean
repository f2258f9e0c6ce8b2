/- The fleet: slices.Sorted(slices.Values(xs)); areCells. -/
import Derived.Test.YtcjokckidpophaaGSeq
import Derived.RangeFuncBox
import Derived.OwnWalkIn
import Derived.LoopNIn
import Derived.LoopIn
import Derived.Test.YtcjokckidpophaaFlP
set_option linter.all false
namespace Go.Proofs.Ytcjokckidpophaa
open Go.RowKit Go.G Go.Shelf
set_option maxHeartbeats 2000000
set_option maxRecDepth 100000 in
theorem vals1_c {n : Nat} (hn : 1 ≤ n) {w : World} {Bs m c : Nat} {A : Option Addr} {xs : List Int} (hBs : w.cell? ⟨Bs, 0, none⟩ = some (.slice A m c)) (ha : RdA kI w A xs) (hm : m = xs.length) (hreach : xs.length * 8 ≤ 140737488351232) :
    GivesAll Fence.wide n Try.prog 101 #[.pointer (some ⟨Bs, 0, none⟩)] xs w := by
  subst hm
  intro l J W hJb hY h0
  have hb : W.cell? ⟨Bs, 0, none⟩ = some (.slice A xs.length c) := ((hJb _ _ h0).cell (p := ⟨Bs, 0, none⟩) (cell_lt hBs)).trans hBs
  clear hBs
  refine callsIn_of_wp Try.func101 rfl trivial ?_ rfl
  simp only [Try.ntmps101, List.size_toArray, List.length_cons, List.length_nil, Nat.reduceAdd, Nat.reduceSub, Array.replicate_succ, Array.replicate_zero, List.push_toArray, List.append_toArray, List.nil_append, List.cons_append]
  gi_wp2
  gi_loopw [7] (fun i wr => ∃ k : Nat, k ≤ xs.length ∧ i = .int .i64 k ∧ J (xs.take k) wr) (fun i _ => xs.length - (intOf i).toNat)
  case atStart => exact ⟨0, Nat.zero_le _, rfl, h0⟩
  case round =>
    obtain ⟨k, hk, rfl, hJs⟩ := hrel
    by_cases hlt : k < xs.length
    · have hkeep := hJb _ _ hJs
      obtain ⟨ad, rfl, cs, hcs, hcell⟩ := ha k hlt
      have hcs' : cs = [.int .i64 xs[k]] := hcs
      subst hcs'
      have hc0 := hcell 0 _ rfl
      rw [show k * kI.sz + 0 = k from by show k * 1 + 0 = k; omega] at hc0
      have hcx : wr.cell? (ad.add k) = some (.int .i64 xs[k]) := (hkeep.cell (cell_lt hc0)).trans hc0
      obtain ⟨fn, tmps, assign, body, hy0, hR⟩ := hY _ xs[k] wr hJs (by rw [List.length_take]; omega)
      have hy : (Instr.yield l #[.int .i64 xs[k]]).run Try.prog wr = .ok (.round l fn tmps assign body) wr := hy0
      clear hy0 hcell hc0 hcs hkeep
      gi_wp2
      refine hR.mono ?_
      rintro e W3 ⟨rfl, hJ3⟩
      have hJ4 : J (xs.take (k + 1)) W3 := by
        rw [List.take_succ_eq_append_getElem hlt]; exact hJ3
      gi_wp2
      go_roundw
      case rel => exact ⟨k + 1, by omega, by simp, hJ4⟩
      case measure => simp [intOf]; omega
    · obtain rfl : k = xs.length := by omega
      rw [List.take_length] at hJs
      gi_wp2
      go_end0
      exact ⟨⟨_, rfl⟩, hJs⟩
theorem map_cells (xs : List Int) : xs.map encZ = xs.flatMap eI.cells := by
  induction xs with
  | nil => rfl
  | cons x xs ih => rw [List.map_cons, List.flatMap_cons, ih]; rfl
theorem AppendSeq_c {b m c : Nat} {A : Option Addr} {xs : List Int} {w : World} (hp : pts w (.pointer (some ⟨b, 0, none⟩)) (.slice A m c)) (ha : RdA kI w A xs) (hm : m = xs.length) (hl : xs.length ≤ 1099511627776) :
    Ret Try.prog 113 [.slice none 0 0, .func (.func 101) #[] #[.pointer (some ⟨b, 0, none⟩)]] w (Own xs) := by
  obtain ⟨_, e, hc⟩ := hp
  simp only [Value.pointer.injEq, Option.some.injEq] at e
  subst e
  have h := appendSeq_all Try.appI Fence.wide 5 trivial rfl (by omega) 101 #[.pointer (some ⟨b, 0, none⟩)] trivial (fun args w => canEnter_run (by kernel_rfl) args w) xs (by omega) w (vals1_c (by omega) hc ha hm (by omega))
  refine Calls.mono (callsIn_wide.1 h) ?_
  rintro e w' ⟨v, he, hrow, hb⟩
  have hx : Ext w w' := .of_below hb
  have hs := row_of_owns hrow
  rw [map_cells] at hs
  rcases hrow.2 with ⟨h1, h2⟩ | ⟨g, cap, cur, h1, _, _, hcap, _⟩
  · subst h1
    have : xs = [] := List.eq_nil_of_length_eq_zero h2
    subst this
    exact ⟨_, _, _, he, ⟨none, 0, by simp, rfl, rfl⟩, hx, hs⟩
  · subst h1
    exact ⟨_, _, _, he, ⟨_, cap, hcap, rfl, rfl⟩, hx, hs⟩
theorem Collect_c {b m c : Nat} {A : Option Addr} {xs : List Int} {w : World} (hp : pts w (.pointer (some ⟨b, 0, none⟩)) (.slice A m c)) (ha : RdA kI w A xs) (hm : m = xs.length) (hl : xs.length ≤ 1099511627776) :
    Ret Try.prog 100 [.func (.func 101) #[] #[.pointer (some ⟨b, 0, none⟩)]] w (Own xs) := by
  refine enter Try.func100 rfl rfl rfl ?_
  repeat' (first | refine g_seq ?_ | refine g_list ?_ | refine gD ?_ | (refine isAS ?_; first | refine a_q ?_ | refine a_f1 ?_ | refine a_f2 ?_ | refine a_nil ?_) | (refine isAF ?_; first | refine afin1 ?_ | refine afin2 ?_) | refine qs_nil ?_ | refine ls_nil ?_ | refine g_block ?_ | refine g_then rfl ?_ | refine g_else rfl ?_ | refine g_skip ?_ | refine g_inBlock ?_ | refine g_exit rfl ?_ | (refine isL ?_; first | refine L ?_ | refine ls_skip rfl rfl ?_ | refine L (h := q_lb (hx := rfl) (hm := (by first | exact .head _ | exact .tail _ (.head _) | exact .tail _ (.tail _ (.head _)) | exact .tail _ (.tail _ (.tail _ (.head _))) | exact .tail _ (.tail _ (.tail _ (.tail _ (.head _)))))) (ht := by kernel_rfl) (hv := by rfl)) ?_ | (refine Lb ?_; intro _) | (refine isF 113 ?_; refine Lr (h := by exact (fun w hw => AppendSeq_c (pts_ext hp hw.1) (ha.ext hw.1) hm hl)) (k' := ?_); rintro _ _ ⟨A1, c1, hc1, rfl, rfl⟩) | refine Lif rfl rfl rfl (fun hc => ?_) (fun hc => ?_) | refine Lne rfl rfl (fun hc => ?_) (fun hc => ?_)) | (refine isS ?_; first | refine S ?_ | refine qs_skip rfl rfl ?_ | refine S (h := q_lb (hx := rfl) (hm := (by first | exact .head _ | exact .tail _ (.head _) | exact .tail _ (.tail _ (.head _)) | exact .tail _ (.tail _ (.tail _ (.head _))) | exact .tail _ (.tail _ (.tail _ (.tail _ (.head _)))))) (ht := by kernel_rfl) (hv := by rfl)) ?_ | refine Sif rfl rfl rfl (fun hc => ?_) (fun hc => ?_) | refine Sne rfl rfl (fun hc => ?_) (fun hc => ?_)))
  refine g_m1 Try.func100 (new := [rI A1 c1 xs]) ?_
  exact ⟨_, _, hc1, rfl, rfl⟩
abbrev sortI (xs : List Int) : List Int := xs.mergeSort fun x y => decide (x ≤ y)
theorem Sorted_c {b m c : Nat} {A : Option Addr} {xs : List Int} {w : World} (hp : pts w (.pointer (some ⟨b, 0, none⟩)) (.slice A m c)) (ha : RdA kI w A xs) (hm : m = xs.length) (hl : xs.length ≤ 1099511627776) :
    Ret Try.prog 90 [.func (.func 101) #[] #[.pointer (some ⟨b, 0, none⟩)]] w (Own (sortI xs)) := by
  refine enter Try.func90 rfl rfl rfl ?_
  repeat' (first | refine g_seq ?_ | refine g_list ?_ | refine gD ?_ | (refine isAS ?_; first | refine a_q ?_ | refine a_f1 ?_ | refine a_f2 ?_ | refine a_nil ?_) | (refine isAF ?_; first | refine afin1 ?_ | refine afin2 ?_) | refine qs_nil ?_ | refine ls_nil ?_ | refine g_block ?_ | refine g_then rfl ?_ | refine g_else rfl ?_ | refine g_skip ?_ | refine g_inBlock ?_ | refine g_exit rfl ?_ | (refine isL ?_; first | refine L ?_ | refine ls_skip rfl rfl ?_ | refine L (h := q_lb (hx := rfl) (hm := (by first | exact .head _ | exact .tail _ (.head _) | exact .tail _ (.tail _ (.head _)) | exact .tail _ (.tail _ (.tail _ (.head _))) | exact .tail _ (.tail _ (.tail _ (.tail _ (.head _)))))) (ht := by kernel_rfl) (hv := by rfl)) ?_ | (refine Lb ?_; intro _) | (refine isF 100 ?_; refine Lr (h := by exact (fun w hw => Collect_c (pts_ext hp hw.1) (ha.ext hw.1) hm hl)) (k' := ?_); rintro _ _ ⟨A1, c1, hc1, rfl, rfl⟩) | (refine isF 85 ?_; refine Lm [_] _ (h := by exact (fun w hw => sort_c (r := Try.sortI_ren) Try.sortI hw (by omega))) (k' := ?_); rintro _ _ ⟨rfl, rfl⟩) | refine Lif rfl rfl rfl (fun hc => ?_) (fun hc => ?_) | refine Lne rfl rfl (fun hc => ?_) (fun hc => ?_)) | (refine isS ?_; first | refine S ?_ | refine qs_skip rfl rfl ?_ | refine S (h := q_lb (hx := rfl) (hm := (by first | exact .head _ | exact .tail _ (.head _) | exact .tail _ (.tail _ (.head _)) | exact .tail _ (.tail _ (.tail _ (.head _))) | exact .tail _ (.tail _ (.tail _ (.tail _ (.head _)))))) (ht := by kernel_rfl) (hv := by rfl)) ?_ | refine Sif rfl rfl rfl (fun hc => ?_) (fun hc => ?_) | refine Sne rfl rfl (fun hc => ?_) (fun hc => ?_)))
  refine g_m1 Try.func90 (new := [rI A1 c1 (sortI xs)]) ?_
  exact ⟨A1, c1, by rw [List.length_mergeSort]; exact hc1, by rw [List.length_mergeSort], rfl⟩
theorem Values_c {m c : Nat} {A : Option Addr} {w : World} :
    Ret Try.prog 91 [.slice A m c] w (fun v new => ∃ b, v = .func (.func 101) #[] #[.pointer (some ⟨b, 0, none⟩)] ∧ new = [blk b [.slice A m c] 22]) := by
  refine enter Try.func91 rfl rfl rfl ?_
  repeat' (first | refine g_seq ?_ | refine g_list ?_ | refine gD ?_ | (refine isAS ?_; first | refine a_q ?_ | refine a_f1 ?_ | refine a_f2 ?_ | refine a_nil ?_) | (refine isAF ?_; first | refine afin1 ?_ | refine afin2 ?_) | refine qs_nil ?_ | refine ls_nil ?_ | refine g_block ?_ | refine g_then rfl ?_ | refine g_else rfl ?_ | refine g_skip ?_ | refine g_inBlock ?_ | refine g_exit rfl ?_ | (refine isL ?_; first | refine L ?_ | refine ls_skip rfl rfl ?_ | refine L (h := q_lb (hx := rfl) (hm := (by first | exact .head _ | exact .tail _ (.head _) | exact .tail _ (.tail _ (.head _)) | exact .tail _ (.tail _ (.tail _ (.head _))) | exact .tail _ (.tail _ (.tail _ (.tail _ (.head _)))))) (ht := by kernel_rfl) (hv := by rfl)) ?_ | (refine Lb ?_; intro _) | refine Lif rfl rfl rfl (fun hc => ?_) (fun hc => ?_) | refine Lne rfl rfl (fun hc => ?_) (fun hc => ?_)) | (refine isS ?_; first | refine S ?_ | refine qs_skip rfl rfl ?_ | refine S (h := q_lb (hx := rfl) (hm := (by first | exact .head _ | exact .tail _ (.head _) | exact .tail _ (.tail _ (.head _)) | exact .tail _ (.tail _ (.tail _ (.head _))) | exact .tail _ (.tail _ (.tail _ (.tail _ (.head _)))))) (ht := by kernel_rfl) (hv := by rfl)) ?_ | refine Sif rfl rfl rfl (fun hc => ?_) (fun hc => ?_) | refine Sne rfl rfl (fun hc => ?_) (fun hc => ?_)))
  refine g_m1 Try.func91 (new := [blk _ [.slice A m c] 22]) ?_
  exact ⟨_, rfl, rfl⟩
theorem areCells_c {A B : Option Addr} {m m' c c' : Nat} {W H : Int} {cells : List Int} {w : World} (hb : RdA kI w B cells) (hm' : m' = cells.length) (hl : cells.length ≤ 1099511627776)
    (hW0 : 1 ≤ W) (hW : W ≤ 5) (hH0 : 1 ≤ H) (hH : H ≤ 5) {b : Bool} (hr : difS W H cells = b) :
    RetV Try.prog 68 [.agg #[.int .i64 W, .int .i64 H, .slice A m c], .slice B m' c'] w (.bool b) := by
  subst hm'
  have hWH := mul_bounds (a := W) (b := H) (by omega) (by omega) (by omega) (by omega)
  have hll : (sortI cells).length ≤ 9223372036854775807 := by rw [List.length_mergeSort]; omega
  refine enter Try.func68 rfl rfl rfl ?_
  repeat' (first | refine g_seq ?_ | refine g_list ?_ | (refine isR 1 ?_; refine g_add [(0, 0), (3, 0), (1, 1), (2, 1), (4, 0), (5, 0), (6, 0), (7, 0)] ?_) | refine gD ?_ | (refine isAS ?_; first | refine a_q ?_ | refine a_f1 ?_ | refine a_f2 ?_ | refine a_nil ?_) | (refine isAF ?_; first | refine afin1 ?_ | refine afin2 ?_) | refine qs_nil ?_ | refine ls_nil ?_ | refine g_block ?_ | refine g_then rfl ?_ | refine g_else rfl ?_ | refine g_skip ?_ | refine g_inBlock ?_ | refine g_exit rfl ?_ | (refine isL ?_; first | refine L ?_ | refine ls_skip rfl rfl ?_ | (refine isF 72 ?_; refine Lc (h := by exact (fun w _ => cells_c w hW0 hW hH0 hH)) (k' := ?_)) | (refine isF 89 ?_; refine Lc (h := by exact (fun w hw => isRising_c _ _ (sortI cells) _ _ w (ro (.head _) w hw) hll rfl)) (k' := ?_)) | refine L (h := q_lbA (by first | exact .head _ | exact .tail _ (.head _) | exact .tail _ (.tail _ (.head _))) rfl (by kernel_rfl)) ?_ | refine L (h := q_lb (hx := rfl) (hm := (by first | exact .head _ | exact .tail _ (.head _) | exact .tail _ (.tail _ (.head _)) | exact .tail _ (.tail _ (.tail _ (.head _))) | exact .tail _ (.tail _ (.tail _ (.tail _ (.head _)))))) (ht := by kernel_rfl) (hv := by rfl)) ?_ | (refine Lb ?_; intro _) | (refine isF 91 ?_; refine Lr (h := by exact (fun w hw => Values_c)) (k' := ?_); rintro _ _ ⟨b1, rfl, rfl⟩) | (refine isF 90 ?_; refine Lr (h := by exact (fun w hw => Sorted_c (by obtain ⟨F, hF⟩ := hw.get (.head _); exact blk_pts hF rfl) (hb.ext hw.1) rfl hl)) (k' := ?_); rintro _ _ ⟨A1, c1, hc1, rfl, rfl⟩) | refine Lif rfl rfl rfl (fun hc => ?_) (fun hc => ?_) | refine Lne rfl rfl (fun hc => ?_) (fun hc => ?_)) | (refine isS ?_; first | refine S ?_ | refine qs_skip rfl rfl ?_ | (refine isFS 72 ?_; refine Sc (h := by exact (fun w _ => cells_c w hW0 hW hH0 hH)) (k' := ?_)) | (refine isFS 89 ?_; refine Sc (h := by exact (fun w hw => isRising_c _ _ (sortI cells) _ _ w (ro (.head _) w hw) hll rfl)) (k' := ?_)) | refine S (h := q_lbA (by first | exact .head _ | exact .tail _ (.head _) | exact .tail _ (.tail _ (.head _))) rfl (by kernel_rfl)) ?_ | refine S (h := q_lb (hx := rfl) (hm := (by first | exact .head _ | exact .tail _ (.head _) | exact .tail _ (.tail _ (.head _)) | exact .tail _ (.tail _ (.tail _ (.head _))) | exact .tail _ (.tail _ (.tail _ (.tail _ (.head _)))))) (ht := by kernel_rfl) (hv := by rfl)) ?_ | refine Sif rfl rfl rfl (fun hc => ?_) (fun hc => ?_) | refine Sne rfl rfl (fun hc => ?_) (fun hc => ?_)))
  refine g_r1 Try.func68 ?_
  congr 1
  have h25 : W * H ≤ 5 * 5 := Int.mul_le_mul hW hH (by omega) (by omega)
  rw [← hr, Bool.eq_iff_iff, decide_eq_true_eq, difS_iff (by omega), rising_iff]
end Go.Proofs.Ytcjokckidpophaa
