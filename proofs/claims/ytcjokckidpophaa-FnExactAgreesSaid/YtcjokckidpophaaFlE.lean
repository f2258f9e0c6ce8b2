/- The fleet: the reference's placements. -/
import Derived.Test.YtcjokckidpophaaFlD
set_option linter.all false
namespace Go.Proofs.Ytcjokckidpophaa
open Go.RowKit Go.G
set_option maxHeartbeats 1000000
abbrev rI (A : Option Addr) (c : Nat) (xs : List Int) : Asn := rowE eI A c 2 xs
/-- a list of its own -/
def Own (xs : List Int) (v : Value) (new : List Asn) : Prop := ∃ A c, xs.length ≤ c ∧ v = .slice A xs.length c ∧ new = [rI A c xs]
theorem l01Own_c {A : Option Addr} {m c : Nat} {xs : List Int} {w : World} (ha : RdA kI w A xs) (hm : m = xs.length) (hl : xs.length ≤ 1099511627776) :
    Ret Try.prog 70 [.slice A m c] w (Own xs) := by
  subst hm
  refine enter Try.func70 rfl rfl rfl ?_
  repeat' (first | refine g_seq ?_ | refine g_list ?_ | refine gD ?_ | (refine isAS ?_; first | refine a_q ?_ | refine a_f1 ?_ | refine a_f2 ?_ | refine a_nil ?_) | (refine isAF ?_; first | refine afin1 ?_ | refine afin2 ?_) | refine qs_nil ?_ | refine ls_nil ?_ | refine g_block ?_ | refine g_then rfl ?_ | refine g_else rfl ?_ | refine g_skip ?_ | refine g_inBlock ?_ | refine g_exit rfl ?_ | (refine isL ?_; first | refine L ?_ | refine ls_skip rfl rfl ?_ | refine L (h := q_lb (hx := rfl) (hm := (by first | exact .head _ | exact .tail _ (.head _) | exact .tail _ (.tail _ (.head _)) | exact .tail _ (.tail _ (.tail _ (.head _))) | exact .tail _ (.tail _ (.tail _ (.tail _ (.head _)))))) (ht := by kernel_rfl) (hv := by rfl)) ?_ | (refine Lb ?_; intro _) | (refine Lsn eI 2 8 ?_; intro _) | (refine Lpe 0 eI 8 xs (ri ha) ?_; intro A' c' hc) | refine Lif rfl rfl rfl (fun hc => ?_) (fun hc => ?_) | refine Lne rfl rfl (fun hc => ?_) (fun hc => ?_)) | (refine isS ?_; first | refine S ?_ | refine qs_skip rfl rfl ?_ | refine S (h := q_lb (hx := rfl) (hm := (by first | exact .head _ | exact .tail _ (.head _) | exact .tail _ (.tail _ (.head _)) | exact .tail _ (.tail _ (.tail _ (.head _))) | exact .tail _ (.tail _ (.tail _ (.tail _ (.head _)))))) (ht := by kernel_rfl) (hv := by rfl)) ?_ | refine Sif rfl rfl rfl (fun hc => ?_) (fun hc => ?_) | refine Sne rfl rfl (fun hc => ?_) (fun hc => ?_)))
  refine g_m1 Try.func70 (new := [rI _ _ xs]) ?_
  exact ⟨_, _, by assumption, rfl, rfl⟩
def put (x : Int) : List Int → List Int
  | [] => [x]
  | y :: r => if y < x then y :: put x r else if y = x then y :: r else x :: y :: r
abbrev Asc (l : List Int) : Prop := l.Pairwise (· < ·)
theorem put_mem (x z : Int) : ∀ (l : List Int), z ∈ put x l ↔ z = x ∨ z ∈ l
  | [] => by simp [put]
  | y :: r => by
    unfold put
    split
    · simp only [List.mem_cons, put_mem x z r]
      constructor <;> (intro h; rcases h with h | h | h) <;> simp [h]
    · split
      · rename_i h; subst h; simp
      · simp
theorem put_asc (x : Int) : ∀ (l : List Int), Asc l → Asc (put x l)
  | [], _ => by simp [put]
  | y :: r, h => by
    have h1 := List.pairwise_cons.1 h
    unfold put
    split
    · refine List.pairwise_cons.2 ⟨fun z hz => ?_, put_asc x r h1.2⟩
      rcases (put_mem x z r).1 hz with rfl | hz
      · assumption
      · exact h1.1 z hz
    · split
      · exact h
      · refine List.pairwise_cons.2 ⟨fun z hz => ?_, h⟩
        rcases List.mem_cons.1 hz with rfl | hz
        · omega
        · have := h1.1 z hz; omega
theorem put_len (x : Int) : ∀ (l : List Int), (put x l).length ≤ l.length + 1
  | [] => by simp [put]
  | y :: r => by
    unfold put
    split
    · have := put_len x r; simp; omega
    · split <;> simp
theorem put_at (x : Int) : ∀ (l : List Int) (k : Nat), Asc l → k ≤ l.length → (∀ j, k ≤ j → j < l.length → x < l.getD j 0) → (0 < k → l.getD (k - 1) 0 < x) → put x l = l.take k ++ [x] ++ l.drop k
  | [], k, _, h, _, _ => by simp [put]
  | y :: r, 0, _, _, h, _ => by
    have := h 0 (by omega) (by simp)
    simp at this
    unfold put
    rw [if_neg (by omega), if_neg (by omega)]
    simp
  | y :: r, k + 1, hs, hk, h, h' => by
    have h1 := List.pairwise_cons.1 hs
    have hy : y < x := by
      have h2 := h' (by omega)
      rcases Nat.eq_zero_or_pos k with rfl | hk0
      · simpa using h2
      · have : y < r.getD (k - 1) 0 := h1.1 _ (by
          have : k - 1 < r.length := by simp at hk; omega
          simp [this])
        have h3 : (y :: r).getD (k + 1 - 1) 0 = r.getD (k - 1) 0 := by
          obtain ⟨k', rfl⟩ : ∃ k', k = k' + 1 := ⟨k - 1, by omega⟩
          simp
        omega
    unfold put
    rw [if_pos hy, put_at x r k h1.2 (by simpa using hk) (fun j hj hl => by simpa using h (j + 1) (by omega) (by simp; omega)) (fun hk0 => by
      have := h' (by omega)
      obtain ⟨k', rfl⟩ : ∃ k', k = k' + 1 := ⟨k - 1, by omega⟩
      simpa using this)]
    simp
theorem put_is (x : Int) : ∀ (l : List Int), Asc l → x ∈ l → put x l = l
  | [], _, h => by simp at h
  | y :: r, hs, h => by
    have h1 := List.pairwise_cons.1 hs
    unfold put
    rcases List.mem_cons.1 h with rfl | h
    · rw [if_neg (by omega), if_pos rfl]
    · rw [if_pos (h1.1 x h), put_is x r h1.2 h]
theorem l01Put_c {A : Option Addr} {m c : Nat} {xs : List Int} {x : Int} {w : World} (ha : RdA kI w A xs) (hm : m = xs.length) (hcap : xs.length ≤ c) (hl : xs.length ≤ 1099511627775) (hs : Asc xs) :
    Ret Try.prog 92 [.slice A m c, .int .i64 x] w (fun v new => (put x xs = xs ∧ v = .slice A xs.length c ∧ new = []) ∨ Own (put x xs) v new) := by
  subst hm
  refine enter Try.func92 rfl rfl rfl ?_
  repeat' (first | refine g_seq ?_ | refine g_list ?_ | refine gD ?_ | (refine isAS ?_; first | refine a_q ?_ | refine a_f1 ?_ | refine a_f2 ?_ | refine a_nil ?_) | (refine isAF ?_; first | refine afin1 ?_ | refine afin2 ?_) | refine qs_nil ?_ | refine ls_nil ?_ | refine g_block ?_ | refine g_then rfl ?_ | refine g_else rfl ?_ | refine g_skip ?_ | refine g_inBlock ?_ | refine g_exit rfl ?_ | (refine isL ?_; first | refine L ?_ | refine ls_skip rfl rfl ?_ | refine L (h := q_lb (hx := rfl) (hm := (by first | exact .head _ | exact .tail _ (.head _) | exact .tail _ (.tail _ (.head _)) | exact .tail _ (.tail _ (.tail _ (.head _))) | exact .tail _ (.tail _ (.tail _ (.tail _ (.head _)))))) (ht := by kernel_rfl) (hv := by rfl)) ?_ | (refine Lb ?_; intro _) | refine Lif rfl rfl rfl (fun hc => ?_) (fun hc => ?_) | refine Lne rfl rfl (fun hc => ?_) (fun hc => ?_)) | (refine isS ?_; first | refine S ?_ | refine qs_skip rfl rfl ?_ | refine S (h := q_lb (hx := rfl) (hm := (by first | exact .head _ | exact .tail _ (.head _) | exact .tail _ (.tail _ (.head _)) | exact .tail _ (.tail _ (.tail _ (.head _))) | exact .tail _ (.tail _ (.tail _ (.tail _ (.head _)))))) (ht := by kernel_rfl) (hv := by rfl)) ?_ | refine Sif rfl rfl rfl (fun hc => ?_) (fun hc => ?_) | refine Sne rfl rfl (fun hc => ?_) (fun hc => ?_)))
  refine g_wh (α := Nat) (fun k => k ≤ xs.length ∧ ∀ j, k ≤ j → j < xs.length → x < xs.getD j 0)
    (fun k => [(0, .slice A xs.length c), (1, .int .i64 x), (5, .int .i64 k)]) (fun _ => []) (fun k => k) xs.length ⟨by omega, by omega⟩ ?_
  rintro k ⟨hk, hinv⟩ IH
  have e1 : 0 < k → xs.getD (k - 1) 0 = xs.getD ((k : Int) - 1).toNat 0 := fun h => by rw [show ((k : Int) - 1).toNat = k - 1 from by omega]
  have hpa : (0 < k → xs.getD (k - 1) 0 < x) → xs.take k ++ [x] ++ xs.drop k = put x xs := fun h => (put_at x xs k hs hk hinv h).symm
  repeat' (first | refine g_seq ?_ | refine g_list ?_ | refine gD ?_ | (refine isAS ?_; first | refine a_q ?_ | refine a_f1 ?_ | refine a_f2 ?_ | refine a_nil ?_) | (refine isAF ?_; first | refine afin1 ?_ | refine afin2 ?_) | refine qs_nil ?_ | refine ls_nil ?_ | refine g_block ?_ | refine g_then rfl ?_ | refine g_else rfl ?_ | refine g_skip ?_ | refine g_inBlock ?_ | refine g_exit rfl ?_ | (refine isL ?_; first | refine L ?_ | refine ls_skip rfl rfl ?_ | refine L (h := q_ix (ri ha) rfl rfl (by kernel_rfl) rfl (by omega) (by omega)) ?_ | refine L (h := q_leI (ri ha) rfl (by kernel_rfl) (by omega) (by omega)) ?_ | refine L (h := (q_as (q_slT 1 rfl rfl (by kernel_rfl) (by omega) (by omega)) (show Value.slice A _ c = .slice A (xs.take k).length c from by rw [List.length_take, Int.toNat_natCast, Nat.min_eq_left hk]))) ?_ | refine L (h := q_slD 1 rfl rfl (by kernel_rfl) (by omega) (by omega)) ?_ | refine L (h := q_lb (hx := rfl) (hm := (by first | exact .head _ | exact .tail _ (.head _) | exact .tail _ (.tail _ (.head _)) | exact .tail _ (.tail _ (.tail _ (.head _))) | exact .tail _ (.tail _ (.tail _ (.tail _ (.head _)))))) (ht := by kernel_rfl) (hv := by rfl)) ?_ | (refine Lb ?_; intro _) | (refine isF 70 ?_; refine Lr (h := by exact (fun w hw => l01Own_c ((ri ha w hw).take k) rfl (by rw [List.length_take]; omega))) (k' := ?_); rintro _ _ ⟨A1, c1, hc1, rfl, rfl⟩) | (refine Lsl 1 2 8 ?_; intro _) | (refine Lp1 0 eI 8 x ?_; intro A2 c2 hc2) | (refine Lpe 0 eI 8 (xs.drop k) (fun w hw => (ri ha w hw).drop hcap k) ?_; intro A3 c3 hc3) | refine Lif rfl rfl rfl (fun hc => ?_) (fun hc => ?_) | refine Lne rfl rfl (fun hc => ?_) (fun hc => ?_)) | (refine isS ?_; first | refine S ?_ | refine qs_skip rfl rfl ?_ | refine S (h := q_ix (ri ha) rfl rfl (by kernel_rfl) rfl (by omega) (by omega)) ?_ | refine S (h := q_leI (ri ha) rfl (by kernel_rfl) (by omega) (by omega)) ?_ | refine S (h := (q_as (q_slT 1 rfl rfl (by kernel_rfl) (by omega) (by omega)) (show Value.slice A _ c = .slice A (xs.take k).length c from by rw [List.length_take, Int.toNat_natCast, Nat.min_eq_left hk]))) ?_ | refine S (h := q_slD 1 rfl rfl (by kernel_rfl) (by omega) (by omega)) ?_ | refine S (h := q_lb (hx := rfl) (hm := (by first | exact .head _ | exact .tail _ (.head _) | exact .tail _ (.tail _ (.head _)) | exact .tail _ (.tail _ (.tail _ (.head _))) | exact .tail _ (.tail _ (.tail _ (.tail _ (.head _)))))) (ht := by kernel_rfl) (hv := by rfl)) ?_ | refine Sif rfl rfl rfl (fun hc => ?_) (fun hc => ?_) | refine Sne rfl rfl (fun hc => ?_) (fun hc => ?_)))
  all_goals first
    | (refine g_go (IH (k-1) ⟨by omega, fun j hj hl => ?_⟩ (by omega)) ⟨rfl, rfl, ?_, trivial⟩
       · rcases Nat.lt_or_ge j k with h | h
         · obtain rfl : j = k - 1 := by omega
           rw [e1 (by omega)]; assumption
         · exact hinv j h hl
       · show some (Value.int .i64 ((k : Int) - 1)) = some (.int .i64 ((k - 1 : Nat) : Int))
         rw [show ((k - 1 : Nat) : Int) = (k : Int) - 1 from by omega])
    | (refine g_m1 Try.func92 (new := []) ?_
       refine .inl ⟨put_is x xs hs ?_, rfl, rfl⟩
       have h1 := e1 (by omega)
       have h2 : k - 1 < xs.length := by omega
       rw [show x = xs.getD (k - 1) 0 from by omega]
       simp [h2])
    | (refine g_m1 Try.func92 (new := [rI _ _ (xs.take k ++ [x] ++ xs.drop k)]) ?_
       refine .inr ⟨_, _, by rw [← hpa (by omega)]; assumption, by rw [← hpa (by omega)], by rw [← hpa (by omega)]⟩)
end Go.Proofs.Ytcjokckidpophaa
