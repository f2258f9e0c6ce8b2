/- The fleet: both lists of placements are one. Plain. -/
import Derived.Test.YtcjokckidpophaaFlH
set_option linter.all false
namespace Go.Proofs.Ytcjokckidpophaa
open Go.RowKit Go.G
theorem asc_ext : ∀ (a b : List Int), Asc a → Asc b → (∀ z, z ∈ a ↔ z ∈ b) → a = b
  | [], [], _, _, _ => rfl
  | [], y :: b, _, _, h => by have := (h y).2 (by simp); simp at this
  | x :: a, [], _, _, h => by have := (h x).1 (by simp); simp at this
  | x :: a, y :: b, ha, hb, h => by
    have ha' := List.pairwise_cons.1 ha
    have hb' := List.pairwise_cons.1 hb
    have hxy : x = y := by
      have h1 := (h x).1 (by simp)
      have h2 := (h y).2 (by simp)
      rcases List.mem_cons.1 h1 with h1 | h1
      · exact h1
      · rcases List.mem_cons.1 h2 with h2 | h2
        · exact h2.symm
        · have := hb'.1 x h1
          have := ha'.1 y h2
          omega
    subst hxy
    congr 1
    refine asc_ext a b ha'.2 hb'.2 fun z => ?_
    have hz := h z
    simp only [List.mem_cons] at hz
    constructor
    · intro h1
      have := ha'.1 z h1
      exact (hz.1 (.inr h1)).resolve_left (by omega)
    · intro h1
      have := hb'.1 z h1
      exact (hz.2 (.inr h1)).resolve_left (by omega)
theorem getD_le {xs : List Int} (hs : xs.Pairwise (· ≤ ·)) {i j : Nat} (hij : i ≤ j) (hj : j < xs.length) : xs.getD i 0 ≤ xs.getD j 0 := by
  rcases Nat.lt_or_ge i j with h | h
  · have := List.pairwise_iff_getElem.1 hs i j (by omega) hj h
    simpa [List.getD_eq_getElem?_getD, hj, show i < xs.length by omega] using this
  · obtain rfl : i = j := by omega
    exact Int.le_refl _
theorem ddp_all {xs : List Int} (hs : xs.Pairwise (· ≤ ·)) : ∀ j, j ≤ xs.length → Asc (ddp xs j) ∧ ∀ z, z ∈ ddp xs j ↔ z ∈ xs.take j
  | 0, _ => by simp [ddp]
  | j + 1, hj => by
    obtain ⟨h1, h2⟩ := ddp_all hs j (by omega)
    have hx : xs[j] = xs.getD j 0 := by simp [show j < xs.length by omega]
    have ht : xs.take (j + 1) = xs.take j ++ [xs.getD j 0] := by rw [List.take_succ_eq_append_getElem (by omega), hx]
    rw [ddp_succ]
    split
    · rename_i hc
      refine ⟨h1, fun z => ?_⟩
      rw [h2, ht, List.mem_append, List.mem_singleton]
      refine ⟨.inl, fun h => h.elim id fun h => ?_⟩
      rw [h, hc.2, List.mem_take_iff_getElem]
      exact ⟨j - 1, by omega, by simp [show j - 1 < xs.length by omega]⟩
    · rename_i hc
      refine ⟨List.pairwise_append.2 ⟨h1, by simp, fun a ha b hb => ?_⟩, fun z => ?_⟩
      · obtain rfl := List.mem_singleton.1 hb
        have ha' := (h2 a).1 ha
        rw [List.mem_take_iff_getElem] at ha'
        obtain ⟨i, hi, rfl⟩ := ha'
        have e : xs[i] = xs.getD i 0 := by simp [show i < xs.length by omega]
        rw [e]
        have h3 := getD_le hs (show i ≤ j - 1 by omega) (by omega)
        have h4 := getD_le hs (show j - 1 ≤ j by omega) (by omega)
        have h5 : ¬ xs.getD j 0 = xs.getD (j - 1) 0 := fun h => hc ⟨by omega, h⟩
        omega
      · rw [ht, List.mem_append, List.mem_append, h2]
theorem sort_dd (xs : List Int) : Asc (ddp (xs.mergeSort fun x y => decide (x ≤ y)) (xs.mergeSort fun x y => decide (x ≤ y)).length) ∧ ∀ z, z ∈ ddp (xs.mergeSort fun x y => decide (x ≤ y)) (xs.mergeSort fun x y => decide (x ≤ y)).length ↔ z ∈ xs := by
  have hs : (xs.mergeSort fun x y => decide (x ≤ y)).Pairwise (· ≤ ·) := by
    have := List.pairwise_mergeSort (le := fun x y : Int => decide (x ≤ y)) (fun a b c h1 h2 => by simp at *; omega) (fun a b => by simp; omega) xs
    exact this.imp fun h => by simpa using h
  obtain ⟨h1, h2⟩ := ddp_all hs _ (Nat.le_refl _)
  refine ⟨h1, fun z => ?_⟩
  rw [h2, List.take_length]
  exact (List.mergeSort_perm xs _).mem_iff
theorem sort_dd_put (xs : List Int) : ddp (xs.mergeSort fun x y => decide (x ≤ y)) (xs.mergeSort fun x y => decide (x ≤ y)).length = putAll xs :=
  asc_ext _ _ (sort_dd xs).1 (asc_putAll xs) fun z => by rw [(sort_dd xs).2, putAll, putAll_mem]; simp
theorem maskD_R (c W : Int) : ∀ k, maskD c (1 + 0 * W) k = maskR c k
  | 0 => rfl
  | k + 1 => by
    rw [maskD, maskR, maskD_R c W k]
    congr 3
    rw [Int.zero_mul]; omega
theorem maskD_C (x y W : Int) : ∀ k, maskD (y * W + x) (0 + 1 * W) k = maskC y x W k
  | 0 => rfl
  | k + 1 => by
    rw [maskD, maskC, maskD_C x y W k]
    have e : y * W + x + (k : Int) * (0 + 1 * W) = (y + k) * W + x := by rw [Int.one_mul, Int.zero_add, Int.add_mul]; omega
    rw [e]
theorem raw_eq {W H n : Int} (hW : 1 ≤ W) (hn : 1 ≤ n) (y x : Nat) (hx : x < W) (hy : y < H) : dirOne W H n (y * W + x) 0 = oneR W n x y ∧ dirOne W H n (y * W + x) 1 = oneC W H n x y := by
  have hm : ((y : Int) * W + x) % W = x := by
    rw [Int.add_comm, Int.add_mul_emod_self_right]
    exact Int.emod_eq_of_lt (by omega) hx
  have hd : ((y : Int) * W + x) / W = y := by
    rw [Int.add_comm, Int.add_mul_ediv_right _ _ (by omega), Int.ediv_eq_zero_of_lt (by omega) hx]; omega
  constructor
  · show dirA W H n _ = _
    unfold dirA oneR
    rw [hm, hd, maskD_R]
    by_cases h : (x : Int) + n ≤ W
    · rw [if_neg (by omega), if_pos h]
    · rw [if_pos (by omega), if_neg h]
  · show dirB W H n _ = _
    unfold dirB oneC
    rw [hm, hd, maskD_C]
    by_cases h : (y : Int) + n ≤ H
    · rw [if_neg (by omega), if_pos h]
    · rw [if_pos (by omega), if_neg h]
theorem raw_x {W H n : Int} (hW : 1 ≤ W) (hn : 1 ≤ n) (y : Nat) (hy : y < H) (acc : List Int) (hacc : rawI W H n (y * W.toNat) = acc) : ∀ x, x ≤ W.toNat → rawI W H n (y * W.toNat + x) = rawX W H n acc y x
  | 0, _ => by simp [rawX, hacc]
  | x + 1, hx => by
    have ih := raw_x hW hn y hy acc hacc x (by omega)
    rw [← Nat.add_assoc, rawI, rawX, rawD, rawD, rawD, ih]
    have e : ((y * W.toNat + x : Nat) : Int) = y * W + x := by
      rw [Int.natCast_add, Int.natCast_mul, Int.toNat_of_nonneg (by omega)]
    obtain ⟨h1, h2⟩ := raw_eq hW hn y x (H := H) (by omega) hy
    rw [e, h1, h2, List.append_assoc]
theorem raw_y {W H n : Int} (hW : 1 ≤ W) (hn : 1 ≤ n) : ∀ y : Nat, y ≤ H.toNat → rawI W H n (y * W.toNat) = rawY W H n y
  | 0, _ => by simp [rawI, rawY]
  | y + 1, hy => by
    rw [Nat.add_mul, Nat.one_mul, rawY]
    exact raw_x hW hn y (by omega) _ (raw_y hW hn y (by omega)) W.toNat (Nat.le_refl _)
theorem plc_eq {W H n : Int} (hW : 1 ≤ W) (hH : 1 ≤ H) (hn : 1 ≤ n) :
    ddp ((rawI W H n (W * H).toNat).mergeSort fun x y => decide (x ≤ y)) ((rawI W H n (W * H).toNat).mergeSort fun x y => decide (x ≤ y)).length = plc W H n := by
  rw [sort_dd_put, plc, ← raw_y hW hn H.toNat (Nat.le_refl _)]
  have e : (W * H).toNat = H.toNat * W.toNat := by
    obtain ⟨a, rfl⟩ := Int.eq_ofNat_of_zero_le (show 0 ≤ W by omega)
    obtain ⟨b, rfl⟩ := Int.eq_ofNat_of_zero_le (show 0 ≤ H by omega)
    rw [← Int.natCast_mul, Int.toNat_natCast, Int.toNat_natCast, Int.toNat_natCast, Nat.mul_comm]
  rw [e]
end Go.Proofs.Ytcjokckidpophaa
