/- The fleet: agreeing; slices.ContainsFunc. -/
import Derived.Test.YtcjokckidpophaaFlC
set_option linter.all false
namespace Go.Proofs.Ytcjokckidpophaa
open Go.RowKit Go.G
set_option maxHeartbeats 1000000
def eShot : Enc (Int × Int) := ePair eI eI
def agr (fleet : List Int) (set : Int) : List (Int × Int) → Bool
  | [] => true
  | (c, a) :: r => if ans c (bits .or .i64 set (ishl .i64 1 c)) fleet = a then agr fleet (bits .or .i64 set (ishl .i64 1 c)) r else false
def setUpto (set : Int) (xs : List (Int × Int)) : Int := xs.foldl (fun s x => bits .or .i64 s (ishl .i64 1 x.1)) set
theorem setUpto_succ (set : Int) (xs : List (Int × Int)) (k : Nat) (h : k < xs.length) : setUpto set (xs.take (k + 1)) = bits .or .i64 (setUpto set (xs.take k)) (ishl .i64 1 (xs.getD k (0, 0)).1) := by
  unfold setUpto
  rw [List.take_succ_eq_append_getElem h, List.foldl_append]
  simp [h]
theorem agr_at (fleet : List Int) (set : Int) (xs : List (Int × Int)) (k : Nat) (h : k < xs.length) : agr fleet set (xs.drop k) = if ans (xs.getD k (0, 0)).1 (bits .or .i64 set (ishl .i64 1 (xs.getD k (0, 0)).1)) fleet = (xs.getD k (0, 0)).2 then agr fleet (bits .or .i64 set (ishl .i64 1 (xs.getD k (0, 0)).1)) (xs.drop (k + 1)) else false := by
  rw [List.drop_eq_getElem_cons h]
  simp [agr, h]
theorem agrees_c (A B : Option Addr) (c c' : Nat) (xs : List Int) (sh : List (Int × Int)) (w : World) (ha : RdA kI w A xs) (hl : xs.length ≤ 9223372036854775807) (hb : RdA (Kd.of eShot) w B sh) (hl' : sh.length ≤ 9223372036854775807)
    (hc : ∀ k, k < sh.length → 0 ≤ (sh.getD k (0, 0)).1) {r : Bool} (hr : agr xs 0 sh = r) :
    RetV Try.prog 41 [.slice A xs.length c, .slice B sh.length c'] w (.bool r) := by
  subst hr
  refine enter Try.func41 rfl rfl rfl ?_
  repeat' (first | refine g_seq ?_ | refine g_list ?_ | refine gD ?_ | (refine isAS ?_; first | refine a_q ?_ | refine a_f1 ?_ | refine a_f2 ?_ | refine a_nil ?_) | (refine isAF ?_; first | refine afin1 ?_ | refine afin2 ?_) | refine qs_nil ?_ | refine ls_nil ?_ | refine g_block ?_ | refine g_then rfl ?_ | refine g_else rfl ?_ | refine g_skip ?_ | refine g_inBlock ?_ | refine g_exit rfl ?_ | (refine isL ?_; first | refine L ?_ | refine ls_skip rfl rfl ?_ | refine L (h := q_lb (hx := rfl) (hm := (by first | exact .head _ | exact .tail _ (.head _) | exact .tail _ (.tail _ (.head _)) | exact .tail _ (.tail _ (.tail _ (.head _))) | exact .tail _ (.tail _ (.tail _ (.tail _ (.head _)))))) (ht := by kernel_rfl) (hv := by rfl)) ?_ | (refine Lb ?_; intro _) | refine Lif rfl rfl rfl (fun hc => ?_) (fun hc => ?_) | refine Lne rfl rfl (fun hc => ?_) (fun hc => ?_)) | (refine isS ?_; first | refine S ?_ | refine qs_skip rfl rfl ?_ | refine S (h := q_lb (hx := rfl) (hm := (by first | exact .head _ | exact .tail _ (.head _) | exact .tail _ (.tail _ (.head _)) | exact .tail _ (.tail _ (.tail _ (.head _))) | exact .tail _ (.tail _ (.tail _ (.tail _ (.head _)))))) (ht := by kernel_rfl) (hv := by rfl)) ?_ | refine Sif rfl rfl rfl (fun hc => ?_) (fun hc => ?_) | refine Sne rfl rfl (fun hc => ?_) (fun hc => ?_)))
  refine g_wh (α := Nat) (fun k => k ≤ sh.length ∧ agr xs (setUpto 0 (sh.take k)) (sh.drop k) = agr xs 0 sh)
    (fun k => [(0, .slice A xs.length c), (1, .slice B sh.length c'), (8, .slice B sh.length c'), (9, .int .i64 sh.length), (10, .int .i64 k), (5, .int .i64 (setUpto 0 (sh.take k)))]) (fun _ => []) (fun k => sh.length - k) 0 ⟨by omega, rfl⟩ ?_
  rintro k ⟨hk, hinv⟩ IH
  have hck : k < sh.length → 0 ≤ (sh.getD (k : Int).toNat eShot.zero).1 := fun h => by rw [Int.toNat_natCast]; exact hc k h
  repeat' (first | refine g_seq ?_ | refine g_list ?_ | refine gD ?_ | (refine isAS ?_; first | refine a_q ?_ | refine a_f1 ?_ | refine a_f2 ?_ | refine a_nil ?_) | (refine isAF ?_; first | refine afin1 ?_ | refine afin2 ?_) | refine qs_nil ?_ | refine ls_nil ?_ | refine g_block ?_ | refine g_then rfl ?_ | refine g_else rfl ?_ | refine g_skip ?_ | refine g_inBlock ?_ | refine g_exit rfl ?_ | (refine isL ?_; first | refine L ?_ | refine ls_skip rfl rfl ?_ | (refine isF 58 ?_; refine Lc (h := by exact (fun w hw => answer_c A c xs _ _ w (ha.ext hw.1) hl (hck (by omega)) rfl)) (k' := ?_)) | refine L (h := q_ix (ri hb) rfl rfl (by kernel_rfl) rfl (by omega) (by omega)) ?_ | refine L (h := q_leA (ri hb) rfl (by kernel_rfl) (by omega) (by omega)) ?_ | refine L (h := q_lb (hx := rfl) (hm := (by first | exact .head _ | exact .tail _ (.head _) | exact .tail _ (.tail _ (.head _)) | exact .tail _ (.tail _ (.tail _ (.head _))) | exact .tail _ (.tail _ (.tail _ (.tail _ (.head _)))))) (ht := by kernel_rfl) (hv := by rfl)) ?_ | (refine Lb ?_; intro _) | (refine La (.agg #[.int .i64 0, .int .i64 0]) ?_; intro _) | refine Lst 0 ?_ | refine Lif rfl rfl rfl (fun hc => ?_) (fun hc => ?_) | refine Lne rfl rfl (fun hc => ?_) (fun hc => ?_)) | (refine isS ?_; first | refine S ?_ | refine qs_skip rfl rfl ?_ | (refine isFS 58 ?_; refine Sc (h := by exact (fun w hw => answer_c A c xs _ _ w (ha.ext hw.1) hl (hck (by omega)) rfl)) (k' := ?_)) | refine S (h := q_ix (ri hb) rfl rfl (by kernel_rfl) rfl (by omega) (by omega)) ?_ | refine S (h := q_leA (ri hb) rfl (by kernel_rfl) (by omega) (by omega)) ?_ | refine S (h := q_lb (hx := rfl) (hm := (by first | exact .head _ | exact .tail _ (.head _) | exact .tail _ (.tail _ (.head _)) | exact .tail _ (.tail _ (.tail _ (.head _))) | exact .tail _ (.tail _ (.tail _ (.tail _ (.head _)))))) (ht := by kernel_rfl) (hv := by rfl)) ?_ | refine Sif rfl rfl rfl (fun hc => ?_) (fun hc => ?_) | refine Sne rfl rfl (fun hc => ?_) (fun hc => ?_)))
  all_goals first
    | (refine g_go (IH (k+1) ⟨by omega, ?_⟩ (by omega)) ?_
       · rw [← hinv, agr_at _ _ sh k (by omega), setUpto_succ _ _ _ (by omega)]; clear hinv IH; simp only [Int.toNat_natCast] at *
         rw [if_pos (by assumption)]
       · refine ⟨rfl, rfl, rfl, rfl, rfl, ?_, trivial⟩
         rw [setUpto_succ _ _ _ (by omega)]; rfl)
    | (refine g_r1 Try.func41 ?_
       rw [← hinv]; clear hinv IH
       first
       | (rw [agr_at _ _ sh k (by omega)]; simp only [Int.toNat_natCast] at *; rw [if_neg (by assumption)])
       | (rw [List.drop_of_length_le (by omega)]; rfl))
theorem l09Agrees_c (A B : Option Addr) (c c' : Nat) (xs : List Int) (sh : List (Int × Int)) (w : World) (ha : RdA kI w A xs) (hl : xs.length ≤ 9223372036854775807) (hb : RdA (Kd.of eShot) w B sh) (hl' : sh.length ≤ 9223372036854775807)
    (hc : ∀ k, k < sh.length → 0 ≤ (sh.getD k (0, 0)).1 ∧ (sh.getD k (0, 0)).1 ≤ 9223372036854775807) {r : Bool} (hr : agr xs 0 sh = r) :
    RetV Try.prog 36 [.slice A xs.length c, .slice B sh.length c'] w (.bool r) := by
  subst hr
  refine enter Try.func36 rfl rfl rfl ?_
  repeat' (first | refine g_seq ?_ | refine g_list ?_ | refine gD ?_ | (refine isAS ?_; first | refine a_q ?_ | refine a_f1 ?_ | refine a_f2 ?_ | refine a_nil ?_) | (refine isAF ?_; first | refine afin1 ?_ | refine afin2 ?_) | refine qs_nil ?_ | refine ls_nil ?_ | refine g_block ?_ | refine g_then rfl ?_ | refine g_else rfl ?_ | refine g_skip ?_ | refine g_inBlock ?_ | refine g_exit rfl ?_ | (refine isL ?_; first | refine L ?_ | refine ls_skip rfl rfl ?_ | refine L (h := q_lb (hx := rfl) (hm := (by first | exact .head _ | exact .tail _ (.head _) | exact .tail _ (.tail _ (.head _)) | exact .tail _ (.tail _ (.tail _ (.head _))) | exact .tail _ (.tail _ (.tail _ (.tail _ (.head _)))))) (ht := by kernel_rfl) (hv := by rfl)) ?_ | (refine Lb ?_; intro _) | refine Lif rfl rfl rfl (fun hc => ?_) (fun hc => ?_) | refine Lne rfl rfl (fun hc => ?_) (fun hc => ?_)) | (refine isS ?_; first | refine S ?_ | refine qs_skip rfl rfl ?_ | refine S (h := q_lb (hx := rfl) (hm := (by first | exact .head _ | exact .tail _ (.head _) | exact .tail _ (.tail _ (.head _)) | exact .tail _ (.tail _ (.tail _ (.head _))) | exact .tail _ (.tail _ (.tail _ (.tail _ (.head _)))))) (ht := by kernel_rfl) (hv := by rfl)) ?_ | refine Sif rfl rfl rfl (fun hc => ?_) (fun hc => ?_) | refine Sne rfl rfl (fun hc => ?_) (fun hc => ?_)))
  refine g_wh (α := Nat) (fun k => k ≤ sh.length ∧ agr xs (setUpto 0 (sh.take k)) (sh.drop k) = agr xs 0 sh)
    (fun k => [(0, .slice A xs.length c), (1, .slice B sh.length c'), (6, .int .i64 k), (5, .int .i64 (setUpto 0 (sh.take k)))]) (fun _ => []) (fun k => sh.length - k) 0 ⟨by omega, rfl⟩ ?_
  rintro k ⟨hk, hinv⟩ IH
  have hck : k < sh.length → 0 ≤ (sh.getD (k : Int).toNat eShot.zero).1 ∧ (sh.getD (k : Int).toNat eShot.zero).1 ≤ 9223372036854775807 := fun h => by rw [Int.toNat_natCast]; exact hc k h
  repeat' (first | refine g_seq ?_ | refine g_list ?_ | refine gD ?_ | (refine isAS ?_; first | refine a_q ?_ | refine a_f1 ?_ | refine a_f2 ?_ | refine a_nil ?_) | (refine isAF ?_; first | refine afin1 ?_ | refine afin2 ?_) | refine qs_nil ?_ | refine ls_nil ?_ | refine g_block ?_ | refine g_then rfl ?_ | refine g_else rfl ?_ | refine g_skip ?_ | refine g_inBlock ?_ | refine g_exit rfl ?_ | (refine isL ?_; first | refine L ?_ | refine ls_skip rfl rfl ?_ | (refine isF 54 ?_; refine Lc (h := by exact (fun w hw => l09Answer_c A c xs _ _ w (ha.ext hw.1) hl (hck (by omega)).1 (hck (by omega)).2 rfl)) (k' := ?_)) | refine L (h := q_ix (ri hb) rfl rfl (by kernel_rfl) rfl (by omega) (by omega)) ?_ | refine L (h := q_ixf (ri hb) 0 rfl (by decide +kernel) (by omega) (by omega)) ?_ | refine L (h := q_ixf (ri hb) 1 rfl (by decide +kernel) (by omega) (by omega)) ?_ | refine L (h := q_lef (ri hb) 0 rfl (by kernel_rfl) (by omega) (by omega) rfl) ?_ | refine L (h := q_lef (ri hb) 1 rfl (by kernel_rfl) (by omega) (by omega) rfl) ?_ | refine L (h := q_lb (hx := rfl) (hm := (by first | exact .head _ | exact .tail _ (.head _) | exact .tail _ (.tail _ (.head _)) | exact .tail _ (.tail _ (.tail _ (.head _))) | exact .tail _ (.tail _ (.tail _ (.tail _ (.head _)))))) (ht := by kernel_rfl) (hv := by rfl)) ?_ | (refine Lb ?_; intro _) | refine Lif rfl rfl rfl (fun hc => ?_) (fun hc => ?_) | refine Lne rfl rfl (fun hc => ?_) (fun hc => ?_)) | (refine isS ?_; first | refine S ?_ | refine qs_skip rfl rfl ?_ | (refine isFS 54 ?_; refine Sc (h := by exact (fun w hw => l09Answer_c A c xs _ _ w (ha.ext hw.1) hl (hck (by omega)).1 (hck (by omega)).2 rfl)) (k' := ?_)) | refine S (h := q_ix (ri hb) rfl rfl (by kernel_rfl) rfl (by omega) (by omega)) ?_ | refine S (h := q_ixf (ri hb) 0 rfl (by decide +kernel) (by omega) (by omega)) ?_ | refine S (h := q_ixf (ri hb) 1 rfl (by decide +kernel) (by omega) (by omega)) ?_ | refine S (h := q_lef (ri hb) 0 rfl (by kernel_rfl) (by omega) (by omega) rfl) ?_ | refine S (h := q_lef (ri hb) 1 rfl (by kernel_rfl) (by omega) (by omega) rfl) ?_ | refine S (h := q_lb (hx := rfl) (hm := (by first | exact .head _ | exact .tail _ (.head _) | exact .tail _ (.tail _ (.head _)) | exact .tail _ (.tail _ (.tail _ (.head _))) | exact .tail _ (.tail _ (.tail _ (.tail _ (.head _)))))) (ht := by kernel_rfl) (hv := by rfl)) ?_ | refine Sif rfl rfl rfl (fun hc => ?_) (fun hc => ?_) | refine Sne rfl rfl (fun hc => ?_) (fun hc => ?_)))
  all_goals first
    | (refine g_go (IH (k+1) ⟨by omega, ?_⟩ (by omega)) ?_
       · rw [← hinv, agr_at _ _ sh k (by omega), setUpto_succ _ _ _ (by omega)]; clear hinv IH; simp only [Int.toNat_natCast] at *
         rw [if_pos (by assumption)]
       · refine ⟨rfl, rfl, ?_, ?_, trivial⟩
         · rfl
         · rw [setUpto_succ _ _ _ (by omega)]; rfl)
    | (refine g_r1 Try.func36 ?_
       rw [← hinv]; clear hinv IH
       first
       | (rw [agr_at _ _ sh k (by omega)]; simp only [Int.toNat_natCast] at *; rw [if_neg (by assumption)])
       | (rw [List.drop_of_length_le (by omega)]; rfl))
/-- the place of the first element that p takes -/
def firstOf {α : Type} (p : α → Bool) (z : α) (xs : List α) (k : Nat) : Int := match (xs.drop k).findIdx? p with | some j => ((k + j : Nat) : Int) | none => -1
theorem firstOf_at {α : Type} (p : α → Bool) (z : α) (xs : List α) (k : Nat) (h : k < xs.length) : firstOf p z xs k = if p (xs.getD k z) then (k : Int) else firstOf p z xs (k + 1) := by
  unfold firstOf
  rw [List.drop_eq_getElem_cons h, List.findIdx?_cons]
  have e : xs.getD k z = xs[k] := by simp [h]
  rw [e]
  cases p xs[k] with
  | true => simp
  | false =>
    simp only [Bool.false_eq_true, ↓reduceIte]
    cases (List.drop (k + 1) xs).findIdx? p <;> simp <;> omega
theorem firstOf_end {α : Type} (p : α → Bool) (z : α) (xs : List α) (k : Nat) (h : xs.length ≤ k) : firstOf p z xs k = -1 := by
  unfold firstOf; rw [List.drop_of_length_le h]; rfl
theorem IndexFuncI_c (A : Option Addr) (c : Nat) (xs : List Int) (F : FuncId) (first caps : Array Value) (p : Int → Bool) (w : World) (ha : RdA kI w A xs) (hl : xs.length ≤ 9223372036854775807)
    (hF : canEnter Try.prog F = true) (hp : ∀ x ∈ xs, ∀ w', Ext w w' → RetV Try.prog F (first.toList ++ [.int .i64 x] ++ caps.toList) w' (.bool (p x))) {r : Int} (hr : firstOf p 0 xs 0 = r) :
    RetV Try.prog 99 [.slice A xs.length c, .func (.func F) first caps] w (.int .i64 r) := by
  subst hr
  refine enter Try.func99 rfl rfl rfl ?_
  repeat' (first | refine g_seq ?_ | refine g_list ?_ | refine gD ?_ | (refine isAS ?_; first | refine a_q ?_ | refine a_f1 ?_ | refine a_f2 ?_ | refine a_nil ?_) | (refine isAF ?_; first | refine afin1 ?_ | refine afin2 ?_) | refine qs_nil ?_ | refine ls_nil ?_ | refine g_block ?_ | refine g_then rfl ?_ | refine g_else rfl ?_ | refine g_skip ?_ | refine g_inBlock ?_ | refine g_exit rfl ?_ | (refine isL ?_; first | refine L ?_ | refine ls_skip rfl rfl ?_ | refine L (h := q_lb (hx := rfl) (hm := (by first | exact .head _ | exact .tail _ (.head _) | exact .tail _ (.tail _ (.head _)) | exact .tail _ (.tail _ (.tail _ (.head _))) | exact .tail _ (.tail _ (.tail _ (.tail _ (.head _)))))) (ht := by kernel_rfl) (hv := by rfl)) ?_ | (refine Lb ?_; intro _) | refine Lif rfl rfl rfl (fun hc => ?_) (fun hc => ?_) | refine Lne rfl rfl (fun hc => ?_) (fun hc => ?_)) | (refine isS ?_; first | refine S ?_ | refine qs_skip rfl rfl ?_ | refine S (h := q_lb (hx := rfl) (hm := (by first | exact .head _ | exact .tail _ (.head _) | exact .tail _ (.tail _ (.head _)) | exact .tail _ (.tail _ (.tail _ (.head _))) | exact .tail _ (.tail _ (.tail _ (.tail _ (.head _)))))) (ht := by kernel_rfl) (hv := by rfl)) ?_ | refine Sif rfl rfl rfl (fun hc => ?_) (fun hc => ?_) | refine Sne rfl rfl (fun hc => ?_) (fun hc => ?_)))
  refine g_wh (α := Nat) (fun k => k ≤ xs.length ∧ firstOf p 0 xs k = firstOf p 0 xs 0)
    (fun k => [(0, .slice A xs.length c), (1, .func (.func F) first caps), (6, .slice A xs.length c), (7, .int .i64 xs.length), (8, .int .i64 k)]) (fun _ => []) (fun k => xs.length - k) 0 ⟨by omega, rfl⟩ ?_
  rintro k ⟨hk, hinv⟩ IH
  have hpk : k < xs.length → ∀ w', Ext w w' → RetV Try.prog F (first.toList ++ [.int .i64 (xs.getD (k : Int).toNat 0)] ++ caps.toList) w' (.bool (p (xs.getD (k : Int).toNat 0))) := fun h => by
    rw [Int.toNat_natCast]; exact hp _ (by simp [h])
  repeat' (first | refine g_seq ?_ | refine g_list ?_ | refine gD ?_ | (refine isAS ?_; first | refine a_q ?_ | refine a_f1 ?_ | refine a_f2 ?_ | refine a_nil ?_) | (refine isAF ?_; first | refine afin1 ?_ | refine afin2 ?_) | refine qs_nil ?_ | refine ls_nil ?_ | refine g_block ?_ | refine g_then rfl ?_ | refine g_else rfl ?_ | refine g_skip ?_ | refine g_inBlock ?_ | refine g_exit rfl ?_ | (refine isL ?_; first | refine L ?_ | refine ls_skip rfl rfl ?_ | refine L (h := q_ix (ri ha) rfl rfl (by kernel_rfl) rfl (by omega) (by omega)) ?_ | refine L (h := q_leI (ri ha) rfl (by kernel_rfl) (by omega) (by omega)) ?_ | refine L (h := q_lb (hx := rfl) (hm := (by first | exact .head _ | exact .tail _ (.head _) | exact .tail _ (.tail _ (.head _)) | exact .tail _ (.tail _ (.tail _ (.head _))) | exact .tail _ (.tail _ (.tail _ (.tail _ (.head _)))))) (ht := by kernel_rfl) (hv := by rfl)) ?_ | (refine Lb ?_; intro _) | (refine isT ?_; refine Lcb (hf := hF) (h := by exact (fun w hw => hpk (by omega) w hw.1)) (kt := fun hc => ?_) (kf := fun hc => ?_)) | refine Lif rfl rfl rfl (fun hc => ?_) (fun hc => ?_) | refine Lne rfl rfl (fun hc => ?_) (fun hc => ?_)) | (refine isS ?_; first | refine S ?_ | refine qs_skip rfl rfl ?_ | refine S (h := q_ix (ri ha) rfl rfl (by kernel_rfl) rfl (by omega) (by omega)) ?_ | refine S (h := q_leI (ri ha) rfl (by kernel_rfl) (by omega) (by omega)) ?_ | refine S (h := q_lb (hx := rfl) (hm := (by first | exact .head _ | exact .tail _ (.head _) | exact .tail _ (.tail _ (.head _)) | exact .tail _ (.tail _ (.tail _ (.head _))) | exact .tail _ (.tail _ (.tail _ (.tail _ (.head _)))))) (ht := by kernel_rfl) (hv := by rfl)) ?_ | refine Sif rfl rfl rfl (fun hc => ?_) (fun hc => ?_) | refine Sne rfl rfl (fun hc => ?_) (fun hc => ?_)))
  all_goals first
    | (refine g_go (IH (k+1) ⟨by omega, ?_⟩ (by omega))
       rw [← hinv, firstOf_at p 0 xs k (by omega)]; clear hinv IH; simp only [Int.toNat_natCast] at *; simp only [*, ↓reduceIte, Bool.false_eq_true])
    | (refine g_r1 Try.func99 ?_
       rw [← hinv]; clear hinv IH
       first
       | (rw [firstOf_at p 0 xs k (by omega)]; simp only [Int.toNat_natCast] at *; simp only [*, ↓reduceIte])
       | (rw [firstOf_end _ _ _ _ (by omega)]))
end Go.Proofs.Ytcjokckidpophaa
