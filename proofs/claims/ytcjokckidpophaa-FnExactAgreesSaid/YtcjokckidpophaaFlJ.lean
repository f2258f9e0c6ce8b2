/- The fleet: searching in lists; goesOn, isFleet of the program. -/
import Derived.Test.YtcjokckidpophaaFlI
set_option linter.all false
namespace Go.Proofs.Ytcjokckidpophaa
open Go.RowKit Go.G
set_option maxHeartbeats 2000000
theorem Index_c {A : Option Addr} {m c : Nat} {xs : List Int} {x : Int} {w : World} (ha : RdA kI w A xs) (hm : m = xs.length) (hl : xs.length ≤ 9223372036854775807) {r : Int} (hr : firstOf (fun y => decide (x = y)) 0 xs 0 = r) :
    RetV Try.prog 84 [.slice A m c, .int .i64 x] w (.int .i64 r) := by
  subst hr hm
  refine enter Try.func84 rfl rfl rfl ?_
  repeat' (first | refine g_seq ?_ | refine g_list ?_ | refine gD ?_ | (refine isAS ?_; first | refine a_q ?_ | refine a_f1 ?_ | refine a_f2 ?_ | refine a_nil ?_) | (refine isAF ?_; first | refine afin1 ?_ | refine afin2 ?_) | refine qs_nil ?_ | refine ls_nil ?_ | refine g_block ?_ | refine g_then rfl ?_ | refine g_else rfl ?_ | refine g_skip ?_ | refine g_inBlock ?_ | refine g_exit rfl ?_ | (refine isL ?_; first | refine L ?_ | refine ls_skip rfl rfl ?_ | refine L (h := q_lb (hx := rfl) (hm := (by first | exact .head _ | exact .tail _ (.head _) | exact .tail _ (.tail _ (.head _)) | exact .tail _ (.tail _ (.tail _ (.head _))) | exact .tail _ (.tail _ (.tail _ (.tail _ (.head _)))))) (ht := by kernel_rfl) (hv := by rfl)) ?_ | (refine Lb ?_; intro _) | refine Lif rfl rfl rfl (fun hc => ?_) (fun hc => ?_) | refine Lne rfl rfl (fun hc => ?_) (fun hc => ?_)) | (refine isS ?_; first | refine S ?_ | refine qs_skip rfl rfl ?_ | refine S (h := q_lb (hx := rfl) (hm := (by first | exact .head _ | exact .tail _ (.head _) | exact .tail _ (.tail _ (.head _)) | exact .tail _ (.tail _ (.tail _ (.head _))) | exact .tail _ (.tail _ (.tail _ (.tail _ (.head _)))))) (ht := by kernel_rfl) (hv := by rfl)) ?_ | refine Sif rfl rfl rfl (fun hc => ?_) (fun hc => ?_) | refine Sne rfl rfl (fun hc => ?_) (fun hc => ?_)))
  refine g_wh (α := Nat) (fun k => k ≤ xs.length ∧ firstOf (fun y => decide (x = y)) 0 xs k = firstOf (fun y => decide (x = y)) 0 xs 0)
    (fun k => [(0, .slice A xs.length c), (1, .int .i64 x), (7, .int .i64 xs.length), (8, .int .i64 k)]) (fun _ => []) (fun k => xs.length - k) 0 ⟨by omega, rfl⟩ ?_
  rintro k ⟨hk, hinv⟩ IH
  repeat' (first | refine g_seq ?_ | refine g_list ?_ | refine gD ?_ | (refine isAS ?_; first | refine a_q ?_ | refine a_f1 ?_ | refine a_f2 ?_ | refine a_nil ?_) | (refine isAF ?_; first | refine afin1 ?_ | refine afin2 ?_) | refine qs_nil ?_ | refine ls_nil ?_ | refine g_block ?_ | refine g_then rfl ?_ | refine g_else rfl ?_ | refine g_skip ?_ | refine g_inBlock ?_ | refine g_exit rfl ?_ | (refine isL ?_; first | refine L ?_ | refine ls_skip rfl rfl ?_ | refine L (h := q_ix (ri ha) rfl rfl (by kernel_rfl) rfl (by omega) (by omega)) ?_ | refine L (h := q_leI (ri ha) rfl (by kernel_rfl) (by omega) (by omega)) ?_ | refine L (h := q_lb (hx := rfl) (hm := (by first | exact .head _ | exact .tail _ (.head _) | exact .tail _ (.tail _ (.head _)) | exact .tail _ (.tail _ (.tail _ (.head _))) | exact .tail _ (.tail _ (.tail _ (.tail _ (.head _)))))) (ht := by kernel_rfl) (hv := by rfl)) ?_ | (refine Lb ?_; intro _) | refine Lif rfl rfl rfl (fun hc => ?_) (fun hc => ?_) | refine Lne rfl rfl (fun hc => ?_) (fun hc => ?_)) | (refine isS ?_; first | refine S ?_ | refine qs_skip rfl rfl ?_ | refine S (h := q_ix (ri ha) rfl rfl (by kernel_rfl) rfl (by omega) (by omega)) ?_ | refine S (h := q_leI (ri ha) rfl (by kernel_rfl) (by omega) (by omega)) ?_ | refine S (h := q_lb (hx := rfl) (hm := (by first | exact .head _ | exact .tail _ (.head _) | exact .tail _ (.tail _ (.head _)) | exact .tail _ (.tail _ (.tail _ (.head _))) | exact .tail _ (.tail _ (.tail _ (.tail _ (.head _)))))) (ht := by kernel_rfl) (hv := by rfl)) ?_ | refine Sif rfl rfl rfl (fun hc => ?_) (fun hc => ?_) | refine Sne rfl rfl (fun hc => ?_) (fun hc => ?_)))
  all_goals first
    | (refine g_go (IH (k+1) ⟨by omega, ?_⟩ (by omega))
       rw [← hinv, firstOf_at _ 0 xs k (by omega)]; clear hinv IH; simp only [Int.toNat_natCast] at *
       rw [if_neg (by simpa using by assumption)])
    | (refine g_r1 Try.func84 ?_
       rw [← hinv]; clear hinv IH
       first
       | (rw [firstOf_at _ 0 xs k (by omega)]; simp only [Int.toNat_natCast] at *; rw [if_pos (by simpa using by assumption)])
       | (rw [firstOf_end _ _ _ _ (by omega)]))
theorem firstOf_nonneg {α : Type} (p : α → Bool) (z : α) (xs : List α) : decide (0 ≤ firstOf p z xs 0) = xs.any p := by
  unfold firstOf
  rw [List.drop_zero]
  cases h : xs.findIdx? p with
  | none =>
    have : xs.any p = false := by
      rw [List.findIdx?_eq_none_iff] at h
      simpa using h
    rw [this]; rfl
  | some j =>
    have : xs.any p = true := by
      obtain ⟨h1, h2, _⟩ := List.findIdx?_eq_some_iff_getElem.1 h
      exact List.any_eq_true.2 ⟨_, List.getElem_mem _, h2⟩
    rw [this]; simp
theorem Contains_c {A : Option Addr} {m c : Nat} {xs : List Int} {x : Int} {w : World} (ha : RdA kI w A xs) (hm : m = xs.length) (hl : xs.length ≤ 9223372036854775807) {b : Bool} (hb : decide (x ∈ xs) = b) :
    RetV Try.prog 65 [.slice A m c, .int .i64 x] w (.bool b) := by
  subst hb
  have e : decide (x ∈ xs) = decide (0 ≤ firstOf (fun y => decide (x = y)) 0 xs 0) := by
    rw [firstOf_nonneg]
    apply Bool.eq_iff_iff.2
    simp [List.any_eq_true]
  rw [e]
  refine enter Try.func65 rfl rfl rfl ?_
  repeat' (first | refine g_seq ?_ | refine g_list ?_ | refine gD ?_ | (refine isAS ?_; first | refine a_q ?_ | refine a_f1 ?_ | refine a_f2 ?_ | refine a_nil ?_) | (refine isAF ?_; first | refine afin1 ?_ | refine afin2 ?_) | refine qs_nil ?_ | refine ls_nil ?_ | refine g_block ?_ | refine g_then rfl ?_ | refine g_else rfl ?_ | refine g_skip ?_ | refine g_inBlock ?_ | refine g_exit rfl ?_ | (refine isL ?_; first | refine L ?_ | refine ls_skip rfl rfl ?_ | (refine isF 84 ?_; refine Lc (h := by exact (fun w hw => Index_c (ri ha w hw) hm hl rfl)) (k' := ?_)) | refine L (h := q_lb (hx := rfl) (hm := (by first | exact .head _ | exact .tail _ (.head _) | exact .tail _ (.tail _ (.head _)) | exact .tail _ (.tail _ (.tail _ (.head _))) | exact .tail _ (.tail _ (.tail _ (.tail _ (.head _)))))) (ht := by kernel_rfl) (hv := by rfl)) ?_ | (refine Lb ?_; intro _) | refine L (h := q_bin rfl rfl rfl) ?_) | (refine isS ?_; first | refine S ?_ | refine qs_skip rfl rfl ?_ | (refine isFS 84 ?_; refine Sc (h := by exact (fun w hw => Index_c (ri ha w hw) hm hl rfl)) (k' := ?_)) | refine S (h := q_lb (hx := rfl) (hm := (by first | exact .head _ | exact .tail _ (.head _) | exact .tail _ (.tail _ (.head _)) | exact .tail _ (.tail _ (.tail _ (.head _))) | exact .tail _ (.tail _ (.tail _ (.tail _ (.head _)))))) (ht := by kernel_rfl) (hv := by rfl)) ?_ | refine S (h := q_bin rfl rfl rfl) ?_))
  exact g_r1 Try.func65 rfl
theorem ContainsFuncI_c {A : Option Addr} {m c : Nat} {xs : List Int} {F : FuncId} {first caps : Array Value} {p : Int → Bool} {w : World} (ha : RdA kI w A xs) (hm : m = xs.length) (hl : xs.length ≤ 9223372036854775807)
    (hF : canEnter Try.prog F = true) (hp : ∀ x ∈ xs, ∀ w', Ext w w' → RetV Try.prog F (first.toList ++ [.int .i64 x] ++ caps.toList) w' (.bool (p x))) {b : Bool} (hb : xs.any p = b) :
    RetV Try.prog 87 [.slice A m c, .func (.func F) first caps] w (.bool b) := by
  subst hb hm
  rw [← firstOf_nonneg p 0]
  refine enter Try.func87 rfl rfl rfl ?_
  repeat' (first | refine g_seq ?_ | refine g_list ?_ | refine gD ?_ | (refine isAS ?_; first | refine a_q ?_ | refine a_f1 ?_ | refine a_f2 ?_ | refine a_nil ?_) | (refine isAF ?_; first | refine afin1 ?_ | refine afin2 ?_) | refine qs_nil ?_ | refine ls_nil ?_ | refine g_block ?_ | refine g_then rfl ?_ | refine g_else rfl ?_ | refine g_skip ?_ | refine g_inBlock ?_ | refine g_exit rfl ?_ | (refine isL ?_; first | refine L ?_ | refine ls_skip rfl rfl ?_ | (refine isF 99 ?_; refine Lc (h := by exact (fun w' hw => IndexFuncI_c A c xs F first caps p w' (ri ha w' hw) hl hF (fun x hx w2 h2 => hp x hx w2 (hw.1.trans h2)) rfl)) (k' := ?_)) | refine L (h := q_lb (hx := rfl) (hm := (by first | exact .head _ | exact .tail _ (.head _) | exact .tail _ (.tail _ (.head _)) | exact .tail _ (.tail _ (.tail _ (.head _))) | exact .tail _ (.tail _ (.tail _ (.tail _ (.head _)))))) (ht := by kernel_rfl) (hv := by rfl)) ?_ | (refine Lb ?_; intro _) | refine L (h := q_bin rfl rfl rfl) ?_) | (refine isS ?_; first | refine S ?_ | refine qs_skip rfl rfl ?_ | (refine isFS 99 ?_; refine Sc (h := by exact (fun w' hw => IndexFuncI_c A c xs F first caps p w' (ri ha w' hw) hl hF (fun x hx w2 h2 => hp x hx w2 (hw.1.trans h2)) rfl)) (k' := ?_)) | refine S (h := q_lb (hx := rfl) (hm := (by first | exact .head _ | exact .tail _ (.head _) | exact .tail _ (.tail _ (.head _)) | exact .tail _ (.tail _ (.tail _ (.head _))) | exact .tail _ (.tail _ (.tail _ (.tail _ (.head _)))))) (ht := by kernel_rfl) (hv := by rfl)) ?_ | refine S (h := q_bin rfl rfl rfl) ?_))
  exact g_r1 Try.func87 rfl
/-- a block of one cell that was there -/
theorem q_ld0 {P : Program} {n : Nat} {ρ : Env} {w0 : World} {bs : List Asn} {d : Option Tmp} {ty : TypeId} {pos : String} {after : Array Edge} {g : Option (Nat × Bool)} {x : Operand} {t : TypeId} {p v : Value} (hp : pts w0 p v) (hx : ev ρ x = some p) (ht : notAgg P t = true) :
    Q1 P n (cls w0 bs) ⟨d, .load t x, ty, pos, after, g⟩ ρ v :=
  q_ld hx ht fun w hw => by
    obtain ⟨a, rfl, h⟩ := hp
    exact ⟨a, rfl, hw.1.cell h⟩
theorem goesOn1_c {p : Value} {x own : Int} {w : World} (hp : pts w p (.int .i64 own)) {b : Bool} (hb : (!decide (bits .and .i64 x own = 0)) = b) :
    RetV Try.prog 88 [.int .i64 x, p] w (.bool b) := by
  subst hb
  refine enter Try.func88 rfl rfl rfl ?_
  repeat' (first | refine g_seq ?_ | refine g_list ?_ | refine gD ?_ | (refine isAS ?_; first | refine a_q ?_ | refine a_f1 ?_ | refine a_f2 ?_ | refine a_nil ?_) | (refine isAF ?_; first | refine afin1 ?_ | refine afin2 ?_) | refine qs_nil ?_ | refine ls_nil ?_ | refine g_block ?_ | refine g_then rfl ?_ | refine g_else rfl ?_ | refine g_skip ?_ | refine g_inBlock ?_ | refine g_exit rfl ?_ | (refine isL ?_; first | refine L ?_ | refine ls_skip rfl rfl ?_ | refine L (h := q_ld0 hp rfl (by kernel_rfl)) ?_ | refine L (h := q_lb (hx := rfl) (hm := (by first | exact .head _ | exact .tail _ (.head _) | exact .tail _ (.tail _ (.head _)) | exact .tail _ (.tail _ (.tail _ (.head _))) | exact .tail _ (.tail _ (.tail _ (.tail _ (.head _)))))) (ht := by kernel_rfl) (hv := by rfl)) ?_ | (refine Lb ?_; intro _) | refine L (h := q_bin rfl rfl rfl) ?_) | (refine isS ?_; first | refine S ?_ | refine qs_skip rfl rfl ?_ | refine S (h := q_ld0 hp rfl (by kernel_rfl)) ?_ | refine S (h := q_lb (hx := rfl) (hm := (by first | exact .head _ | exact .tail _ (.head _) | exact .tail _ (.tail _ (.head _)) | exact .tail _ (.tail _ (.tail _ (.head _))) | exact .tail _ (.tail _ (.tail _ (.tail _ (.head _)))))) (ht := by kernel_rfl) (hv := by rfl)) ?_ | refine S (h := q_bin rfl rfl rfl) ?_))
  exact g_r1 Try.func88 rfl
end Go.Proofs.Ytcjokckidpophaa
