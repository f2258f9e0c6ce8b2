/- The fleet: the reference's placements, the walk. -/
import Derived.Test.YtcjokckidpophaaFlE
set_option linter.all false
namespace Go.Proofs.Ytcjokckidpophaa
open Go.RowKit Go.G
set_option maxHeartbeats 2000000
/-- the set of a row from a cell on -/
def maskR (c : Int) : Nat → Int
  | 0 => 0
  | k + 1 => bits .or .i64 (maskR c k) (ishl .i64 1 (c + k))
/-- the set of a column -/
def maskC (y x W : Int) : Nat → Int
  | 0 => 0
  | k + 1 => bits .or .i64 (maskC y x W k) (ishl .i64 1 ((y + k) * W + x))
/-- the placements that begin at a cell -/
def oneR (W n : Int) (x y : Nat) : List Int := if (x : Int) + n ≤ W then [maskR (y * W + x) n.toNat] else []
def oneC (W H n : Int) (x y : Nat) : List Int := if (y : Int) + n ≤ H then [maskC y x W n.toNat] else []
/-- those of a row of cells, up to x -/
def rawX (W H n : Int) (acc : List Int) (y : Nat) : Nat → List Int
  | 0 => acc
  | x + 1 => rawX W H n acc y x ++ (oneR W n x y ++ oneC W H n x y)
def rawY (W H n : Int) : Nat → List Int
  | 0 => []
  | y + 1 => rawX W H n (rawY W H n y) y W.toNat
def putAll (l : List Int) : List Int := l.foldl (fun a x => put x a) []
def plc (W H n : Int) : List Int := putAll (rawY W H n H.toNat)
theorem putAll_snoc (l : List Int) (x : Int) : putAll (l ++ [x]) = put x (putAll l) := by simp [putAll, List.foldl_append]
theorem putAll_asc : ∀ (l a : List Int), Asc a → Asc (l.foldl (fun a x => put x a) a)
  | [], a, h => h
  | x :: l, a, h => putAll_asc l (put x a) (put_asc x a h)
theorem putAll_len : ∀ (l a : List Int), (l.foldl (fun a x => put x a) a).length ≤ a.length + l.length
  | [], a => by simp
  | x :: l, a => by
    have h1 := putAll_len l (put x a)
    have h2 := put_len x a
    simp only [List.foldl_cons, List.length_cons]
    omega
theorem putAll_mem (z : Int) : ∀ (l a : List Int), z ∈ l.foldl (fun a x => put x a) a ↔ z ∈ l ∨ z ∈ a
  | [], a => by simp
  | x :: l, a => by
    rw [List.foldl_cons, putAll_mem z l, put_mem]
    simp only [List.mem_cons, or_assoc, or_left_comm]
theorem oneR_len (W n : Int) (x y : Nat) : (oneR W n x y).length ≤ 1 := by unfold oneR; split <;> simp
theorem oneC_len (W H n : Int) (x y : Nat) : (oneC W H n x y).length ≤ 1 := by unfold oneC; split <;> simp
theorem rawX_len (W H n : Int) (acc : List Int) (y : Nat) : ∀ x, (rawX W H n acc y x).length ≤ acc.length + 2 * x
  | 0 => by simp [rawX]
  | x + 1 => by
    have := rawX_len W H n acc y x
    have h1 := oneR_len W n x y
    have h2 := oneC_len W H n x y
    simp only [rawX, List.length_append]; omega
theorem rawY_len (W H n : Int) (hW : W ≤ 5) : ∀ y, (rawY W H n y).length ≤ 10 * y
  | 0 => by simp [rawY]
  | y + 1 => by
    have := rawY_len W H n hW y
    have := rawX_len W H n (rawY W H n y) y W.toNat
    simp only [rawY]; omega
theorem raw_len {W H n : Int} (hW : W ≤ 5) {y x : Nat} (hy : y ≤ 5) (hx : x ≤ 5) : (putAll (rawX W H n (rawY W H n y) y x)).length ≤ 60 := by
  have h1 := putAll_len (rawX W H n (rawY W H n y) y x) []
  have h2 := rawY_len W H n hW y
  have h3 := rawX_len W H n (rawY W H n y) y x
  simp only [List.length_nil] at h1
  unfold putAll; omega
theorem mul_bounds {a b : Int} (ha : 0 ≤ a) (ha' : a ≤ 10) (hb : 0 ≤ b) (hb' : b ≤ 10) : 0 ≤ a * b ∧ a * b ≤ 100 := by
  refine ⟨Int.mul_nonneg ha hb, ?_⟩
  have h1 : a * b ≤ 10 * b := Int.mul_le_mul_of_nonneg_right ha' hb
  omega
theorem l01PutO_c {A : Option Addr} {c : Nat} {xs : List Int} {x : Int} {w0 w : World} {bs : List Asn} (hw : cls w0 (rI A c xs :: bs) w) (hcap : xs.length ≤ c) (hl : xs.length ≤ 1099511627775) (hs : Asc xs) :
    RetC Try.prog 92 [.slice A xs.length c, .int .i64 x] w0 bs w (Own (put x xs)) := by
  refine Calls.mono (Ret.c (l01Put_c (ro (.head _) w hw) rfl hcap hl hs) hw) ?_
  rintro e w' ⟨v, new, he, hS, hc⟩
  rcases hS with ⟨h1, rfl, rfl⟩ | ⟨A', c', h2, rfl, rfl⟩
  · exact ⟨_, [rI A c xs], he, ⟨A, c, by rw [h1]; exact hcap, by rw [h1], by rw [h1]⟩, hc⟩
  · exact ⟨_, [rI A' c' (put x xs)], he, ⟨A', c', h2, rfl, rfl⟩, hc.sub (.cons_cons _ (.cons _ (List.Sublist.refl _)))⟩
theorem asc_putAll (l : List Int) : Asc (putAll l) := putAll_asc l [] List.Pairwise.nil
theorem l09Placements_c {A0 : Option Addr} {m0 c0 : Nat} {W H n : Int} (w : World) (hW0 : 1 ≤ W) (hW : W ≤ 5) (hH0 : 1 ≤ H) (hH : H ≤ 5) (hn0 : 1 ≤ n) (hn : n ≤ 5) :
    Ret Try.prog 69 [.agg #[.int .i64 W, .int .i64 H, .slice A0 m0 c0], .int .i64 n] w (Own (plc W H n)) := by
  refine enter Try.func69 rfl rfl rfl ?_
  repeat' (first | refine g_seq ?_ | refine g_list ?_ | refine gD ?_ | (refine isAS ?_; first | refine a_q ?_ | refine a_f1 ?_ | refine a_f2 ?_ | refine a_nil ?_) | (refine isAF ?_; first | refine afin1 ?_ | refine afin2 ?_) | refine qs_nil ?_ | refine ls_nil ?_ | refine g_block ?_ | refine g_then rfl ?_ | refine g_else rfl ?_ | refine g_skip ?_ | refine g_inBlock ?_ | refine g_exit rfl ?_ | (refine isL ?_; first | refine L ?_ | refine ls_skip rfl rfl ?_ | refine L (h := q_lb (hx := rfl) (hm := (by first | exact .head _ | exact .tail _ (.head _) | exact .tail _ (.tail _ (.head _)) | exact .tail _ (.tail _ (.tail _ (.head _))) | exact .tail _ (.tail _ (.tail _ (.tail _ (.head _)))))) (ht := by kernel_rfl) (hv := by rfl)) ?_ | (refine Lb ?_; intro _) | (refine Lsn eI 2 8 ?_; intro _) | refine Lif rfl rfl rfl (fun hc => ?_) (fun hc => ?_) | refine Lne rfl rfl (fun hc => ?_) (fun hc => ?_)) | (refine isS ?_; first | refine S ?_ | refine qs_skip rfl rfl ?_ | refine S (h := q_lb (hx := rfl) (hm := (by first | exact .head _ | exact .tail _ (.head _) | exact .tail _ (.tail _ (.head _)) | exact .tail _ (.tail _ (.tail _ (.head _))) | exact .tail _ (.tail _ (.tail _ (.tail _ (.head _)))))) (ht := by kernel_rfl) (hv := by rfl)) ?_ | refine Sif rfl rfl rfl (fun hc => ?_) (fun hc => ?_) | refine Sne rfl rfl (fun hc => ?_) (fun hc => ?_)))
  refine g_wh (α := Nat × Option Addr × Nat) (fun s => s.1 ≤ H.toNat ∧ (putAll (rawY W H n s.1)).length ≤ s.2.2)
    (fun s => [(1, .int .i64 n), (2, .pointer (some ⟨_, 0, none⟩)), (5, .slice s.2.1 (putAll (rawY W H n s.1)).length s.2.2), (6, .int .i64 s.1)])
    (fun s => [rI s.2.1 s.2.2 (putAll (rawY W H n s.1)), blk _ [.int .i64 W, .int .i64 H, .slice A0 m0 c0] 30]) (fun s => H.toNat - s.1) (0, _, _) ⟨by omega, by simp [rawY, putAll]⟩ ?_
  rintro ⟨y, A, c⟩ ⟨hy, hcap⟩ IH
  dsimp only at hy hcap IH ⊢
  have hyW := mul_bounds (a := (y : Int)) (b := W) (by omega) (by omega) (by omega) (by omega)
  repeat' (first | refine g_seq ?_ | refine g_list ?_ | refine gD ?_ | (refine isAS ?_; first | refine a_q ?_ | refine a_f1 ?_ | refine a_f2 ?_ | refine a_nil ?_) | (refine isAF ?_; first | refine afin1 ?_ | refine afin2 ?_) | refine qs_nil ?_ | refine ls_nil ?_ | refine g_block ?_ | refine g_then rfl ?_ | refine g_else rfl ?_ | refine g_skip ?_ | refine g_inBlock ?_ | refine g_exit rfl ?_ | (refine isL ?_; first | refine L ?_ | refine ls_skip rfl rfl ?_ | refine L (h := q_lb (hx := rfl) (hm := (by first | exact .head _ | exact .tail _ (.head _) | exact .tail _ (.tail _ (.head _)) | exact .tail _ (.tail _ (.tail _ (.head _))) | exact .tail _ (.tail _ (.tail _ (.tail _ (.head _)))))) (ht := by kernel_rfl) (hv := by rfl)) ?_ | (refine Lb ?_; intro _) | refine Lif rfl rfl rfl (fun hc => ?_) (fun hc => ?_) | refine Lne rfl rfl (fun hc => ?_) (fun hc => ?_)) | (refine isS ?_; first | refine S ?_ | refine qs_skip rfl rfl ?_ | refine S (h := q_lb (hx := rfl) (hm := (by first | exact .head _ | exact .tail _ (.head _) | exact .tail _ (.tail _ (.head _)) | exact .tail _ (.tail _ (.tail _ (.head _))) | exact .tail _ (.tail _ (.tail _ (.tail _ (.head _)))))) (ht := by kernel_rfl) (hv := by rfl)) ?_ | refine Sif rfl rfl rfl (fun hc => ?_) (fun hc => ?_) | refine Sne rfl rfl (fun hc => ?_) (fun hc => ?_)))
  · refine g_wh (α := Nat × Option Addr × Nat) (fun s => s.1 ≤ W.toNat ∧ (putAll (rawX W H n (rawY W H n y) y s.1)).length ≤ s.2.2)
      (fun s => [(1, .int .i64 n), (2, .pointer (some ⟨_, 0, none⟩)), (5, .slice s.2.1 (putAll (rawX W H n (rawY W H n y) y s.1)).length s.2.2), (6, .int .i64 y), (7, .int .i64 s.1)])
      (fun s => [rI s.2.1 s.2.2 (putAll (rawX W H n (rawY W H n y) y s.1)), blk _ [.int .i64 W, .int .i64 H, .slice A0 m0 c0] 30]) (fun s => W.toNat - s.1) (0, _, _) ⟨by omega, hcap⟩ ?_
    clear hcap
    rintro ⟨x, A, c⟩ ⟨hx, hcap⟩ IHx
    dsimp only at hx hcap IHx ⊢
    repeat' (first | refine g_seq ?_ | refine g_list ?_ | refine gD ?_ | (refine isAS ?_; first | refine a_q ?_ | refine a_f1 ?_ | refine a_f2 ?_ | refine a_nil ?_) | (refine isAF ?_; first | refine afin1 ?_ | refine afin2 ?_) | refine qs_nil ?_ | refine ls_nil ?_ | refine g_block ?_ | refine g_then rfl ?_ | refine g_else rfl ?_ | refine g_skip ?_ | refine g_inBlock ?_ | refine g_exit rfl ?_ | (refine isL ?_; first | refine L ?_ | refine ls_skip rfl rfl ?_ | refine L (h := q_lb (hx := rfl) (hm := (by first | exact .head _ | exact .tail _ (.head _) | exact .tail _ (.tail _ (.head _)) | exact .tail _ (.tail _ (.tail _ (.head _))) | exact .tail _ (.tail _ (.tail _ (.tail _ (.head _)))))) (ht := by kernel_rfl) (hv := by rfl)) ?_ | (refine Lb ?_; intro _) | refine Lif rfl rfl rfl (fun hc => ?_) (fun hc => ?_) | refine Lne rfl rfl (fun hc => ?_) (fun hc => ?_)) | (refine isS ?_; first | refine S ?_ | refine qs_skip rfl rfl ?_ | refine S (h := q_lb (hx := rfl) (hm := (by first | exact .head _ | exact .tail _ (.head _) | exact .tail _ (.tail _ (.head _)) | exact .tail _ (.tail _ (.tail _ (.head _))) | exact .tail _ (.tail _ (.tail _ (.tail _ (.head _)))))) (ht := by kernel_rfl) (hv := by rfl)) ?_ | refine Sif rfl rfl rfl (fun hc => ?_) (fun hc => ?_) | refine Sne rfl rfl (fun hc => ?_) (fun hc => ?_)))
    · refine g_wh (α := Nat) (fun i => i ≤ n.toNat)
        (fun i => [(1, .int .i64 n), (2, .pointer (some ⟨_, 0, none⟩)), (5, .slice A (putAll (rawX W H n (rawY W H n y) y x)).length c), (6, .int .i64 y), (7, .int .i64 x), (8, .int .i64 (maskR (y * W + x) i)), (9, .int .i64 (maskC y x W i)), (10, .int .i64 i)])
        (fun i => _) (fun i => n.toNat - i) 0 (by omega) ?_
      intro i hi IHi
      have hyiW := mul_bounds (a := (y : Int) + i) (b := W) (by omega) (by omega) (by omega) (by omega)
      have hl := raw_len (W := W) (H := H) (n := n) hW (y := y) (x := x) (by omega) (by omega)
      repeat' (first | refine g_seq ?_ | refine g_list ?_ | refine gD ?_ | (refine isAS ?_; first | refine a_q ?_ | refine a_f1 ?_ | refine a_f2 ?_ | refine a_nil ?_) | (refine isAF ?_; first | refine afin1 ?_ | refine afin2 ?_) | refine qs_nil ?_ | refine ls_nil ?_ | refine g_block ?_ | refine g_then rfl ?_ | refine g_else rfl ?_ | refine g_skip ?_ | refine g_inBlock ?_ | refine g_exit rfl ?_ | (refine isL ?_; first | refine L ?_ | refine ls_skip rfl rfl ?_ | refine L (h := q_lb (hx := rfl) (hm := (by first | exact .head _ | exact .tail _ (.head _) | exact .tail _ (.tail _ (.head _)) | exact .tail _ (.tail _ (.tail _ (.head _))) | exact .tail _ (.tail _ (.tail _ (.tail _ (.head _)))))) (ht := by kernel_rfl) (hv := by rfl)) ?_ | (refine Lb ?_; intro _) | (refine isF 92 ?_; refine Lm [_] _ (h := by exact (fun w hw => l01PutO_c hw (by assumption) (by first | omega | (have := put_len (maskR (y * W + x) i) (putAll (rawX W H n (rawY W H n y) y x)); omega)) (by first | exact asc_putAll _ | exact put_asc _ _ (asc_putAll _)))) (k' := ?_); rintro _ _ ⟨A1, c1, hc1, rfl, rfl⟩) | refine Lif rfl rfl rfl (fun hc => ?_) (fun hc => ?_) | refine Lne rfl rfl (fun hc => ?_) (fun hc => ?_)) | (refine isS ?_; first | refine S ?_ | refine qs_skip rfl rfl ?_ | refine S (h := q_lb (hx := rfl) (hm := (by first | exact .head _ | exact .tail _ (.head _) | exact .tail _ (.tail _ (.head _)) | exact .tail _ (.tail _ (.tail _ (.head _))) | exact .tail _ (.tail _ (.tail _ (.tail _ (.head _)))))) (ht := by kernel_rfl) (hv := by rfl)) ?_ | refine Sif rfl rfl rfl (fun hc => ?_) (fun hc => ?_) | refine Sne rfl rfl (fun hc => ?_) (fun hc => ?_)))
      all_goals first
        | exact g_go (IHi (i+1) (by omega) (by omega))
        | (obtain rfl : i = n.toNat := by omega
           have key : putAll (rawX W H n (rawY W H n y) y (x + 1)) = put (maskC y x W n.toNat) (put (maskR (y * W + x) n.toNat) (putAll (rawX W H n (rawY W H n y) y x))) := by
             rw [rawX, oneR, oneC, if_pos (by omega), if_pos (by omega), ← List.append_assoc, putAll_snoc, putAll_snoc]
           have IH' := IHx (x+1, A1, c1) ⟨by omega, by rw [key]; assumption⟩ (by omega)
           dsimp only at IH'; rw [key] at IH'; exact g_go IH')
        | (obtain rfl : i = n.toNat := by omega
           have key : putAll (rawX W H n (rawY W H n y) y (x + 1)) = put (maskR (y * W + x) n.toNat) (putAll (rawX W H n (rawY W H n y) y x)) := by
             rw [rawX, oneR, oneC, if_pos (by omega), if_neg (by omega), List.append_nil, putAll_snoc]
           have IH' := IHx (x+1, A1, c1) ⟨by omega, by rw [key]; assumption⟩ (by omega)
           dsimp only at IH'; rw [key] at IH'; exact g_go IH')
        | (obtain rfl : i = n.toNat := by omega
           have key : putAll (rawX W H n (rawY W H n y) y (x + 1)) = put (maskC y x W n.toNat) (putAll (rawX W H n (rawY W H n y) y x)) := by
             rw [rawX, oneR, oneC, if_neg (by omega), if_pos (by omega), List.nil_append, putAll_snoc]
           have IH' := IHx (x+1, A1, c1) ⟨by omega, by rw [key]; assumption⟩ (by omega)
           dsimp only at IH'; rw [key] at IH'; exact g_go IH')
        | (obtain rfl : i = n.toNat := by omega
           have key : putAll (rawX W H n (rawY W H n y) y (x + 1)) = putAll (rawX W H n (rawY W H n y) y x) := by
             rw [rawX, oneR, oneC, if_neg (by omega), if_neg (by omega), List.append_nil, List.append_nil]
           have IH' := IHx (x+1, A, c) ⟨by omega, by rw [key]; assumption⟩ (by omega)
           dsimp only at IH'; rw [key] at IH'; exact g_go IH')
        | skip
    · obtain rfl : x = W.toNat := by omega
      exact g_go (IH (y+1, A, c) ⟨by omega, hcap⟩ (by omega))
  · obtain rfl : y = H.toNat := by omega
    refine g_m1 Try.func69 (new := [rI _ _ (plc W H n)]) ?_
    exact ⟨_, _, hcap, rfl, rfl⟩
end Go.Proofs.Ytcjokckidpophaa
