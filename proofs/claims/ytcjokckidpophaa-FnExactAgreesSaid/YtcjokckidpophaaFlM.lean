/- The fleet: both say alike what is a fleet. Plain. -/
import Derived.Test.YtcjokckidpophaaFlL
set_option linter.all false
namespace Go.Proofs.Ytcjokckidpophaa
open Go.RowKit Go.G
theorem bv_inj {a b : Int} (ha : bv a = bv b) (h1 : -9223372036854775808 ≤ a ∧ a ≤ 9223372036854775807) (h2 : -9223372036854775808 ≤ b ∧ b ≤ 9223372036854775807) : a = b := by
  have h := congrArg BitVec.toInt ha
  rw [BitVec.toInt_ofInt, BitVec.toInt_ofInt] at h
  simp only [Int.bmod] at h
  omega
theorem and_zero (x y : Int) : bits .and .i64 x y = 0 ↔ bv x &&& bv y = 0 := by
  rw [and_bv]
  constructor
  · intro h
    have := congrArg bv h
    rw [bv_toInt] at this
    exact this
  · intro h; rw [h]; rfl
theorem and_or_zero (x a b : BitVec 64) : x &&& (a ||| b) = 0 ↔ x &&& a = 0 ∧ x &&& b = 0 := by
  constructor
  · intro h
    constructor
    · ext i hi
      have := congrArg (fun v => v.getLsbD i) h
      simp at this ⊢
      intro h1; exact (this h1).1
    · ext i hi
      have := congrArg (fun v => v.getLsbD i) h
      simp at this ⊢
      intro h1; exact (this h1).2
  · rintro ⟨h1, h2⟩
    rw [BitVec.and_or_distrib_left, h1, h2]; rfl
theorem noHit_iff (list : List Int) (own : Int) : noHit list own = true ↔ ∀ x ∈ list, bits .and .i64 x own = 0 := by
  unfold noHit
  rw [Bool.not_eq_true', List.any_eq_false]
  simp
theorem noHit_used (fleet : List Int) (own : Int) : ∀ k, k ≤ fleet.length → (noHit (fleet.take k) own = true ↔ bits .and .i64 own (usedU fleet k) = 0)
  | 0, _ => by
    rw [noHit_iff, usedU, and_zero]
    simp
  | k + 1, h => by
    have ih := noHit_used fleet own k (by omega)
    rw [noHit_iff] at ih ⊢
    have e : fleet[k] = fleet.getD k 0 := by simp [show k < fleet.length by omega]
    rw [usedU, and_zero, bv_or, and_or_zero, ← and_zero, ← and_zero, ← ih, List.take_succ_eq_append_getElem (by omega), e]
    simp only [List.mem_append, List.mem_singleton]
    constructor
    · intro h1
      refine ⟨fun x hx => h1 x (.inl hx), ?_⟩
      have := h1 _ (.inr rfl)
      rw [and_zero] at this ⊢
      rw [BitVec.and_comm]; exact this
    · rintro ⟨h1, h2⟩ x (hx | rfl)
      · exact h1 x hx
      · rw [and_zero] at h2 ⊢
        rw [BitVec.and_comm]; exact h2
theorem bv_wrap (z : Int) : bv (IntKind.i64.wrap z) = bv z := by
  apply BitVec.eq_of_toInt_eq
  rw [BitVec.toInt_ofInt, BitVec.toInt_ofInt]
  simp only [IntKind.wrap, IntKind.bits, IntKind.signed, Int.bmod]
  simp
  split <;> split <;> split <;> omega
theorem ishl1_ne (p : Int) (h0 : 0 ≤ p) (h1 : p < 64) : bv (ishl .i64 1 p) ≠ 0 := by
  obtain ⟨q, rfl⟩ := Int.eq_ofNat_of_zero_le h0
  have hq : q < 64 := by omega
  rw [ishl, bv_wrap]
  intro h
  have h2 := congrArg BitVec.toNat h
  have e : min (q : Int).toNat IntKind.i64.bits = q := by rw [Int.toNat_natCast]; exact Nat.min_eq_left (by simp [IntKind.bits]; omega)
  rw [e, Int.one_mul, BitVec.toNat_ofInt] at h2
  have hp : (2 : Int) ^ q = ((2 ^ q : Nat) : Int) := by simp
  rw [hp] at h2
  have hlt : 2 ^ q < 2 ^ 64 := Nat.pow_lt_pow_right (by omega) hq
  have hpos : 0 < 2 ^ q := Nat.two_pow_pos q
  have h3 : (((2 ^ q : Nat) : Int) % ((2 ^ 64 : Nat) : Int)).toNat = 2 ^ q := by
    rw [← Int.natCast_emod, Int.toNat_natCast, Nat.mod_eq_of_lt hlt]
  rw [h3] at h2
  simp at h2
theorem or_ne (a b : Int) (h : bv b ≠ 0) : bv (bits .or .i64 a b) ≠ 0 := by
  intro he
  apply h
  have h1 : bv a ||| bv b = 0 := by rw [← bv_or, he]
  ext i hi
  have := congrArg (fun v => v.getLsbD i) h1
  simp at this ⊢
  exact this.2
theorem maskR_ne (c : Int) (k : Nat) (hk : 0 < k) (h0 : 0 ≤ c) (h1 : c + k ≤ 64) : bv (maskR c k) ≠ 0 := by
  obtain ⟨j, rfl⟩ : ∃ j, k = j + 1 := ⟨k - 1, by omega⟩
  exact or_ne _ _ (ishl1_ne _ (by omega) (by omega))
theorem maskC_ne (y x W : Int) (k : Nat) (hk : 0 < k) (h0 : 0 ≤ (y + (k - 1)) * W + x) (h1 : (y + (k - 1)) * W + x < 64) : bv (maskC y x W k) ≠ 0 := by
  obtain ⟨j, rfl⟩ : ∃ j, k = j + 1 := ⟨k - 1, by omega⟩
  have e : ((j + 1 : Nat) : Int) - 1 = j := by omega
  rw [e] at h0 h1
  exact or_ne _ _ (ishl1_ne _ h0 h1)
theorem rawX_mem {W H n : Int} {z : Int} {y : Nat} : ∀ {x : Nat} {acc : List Int}, z ∈ rawX W H n acc y x → z ∈ acc ∨ ∃ x', x' < x ∧ (z ∈ oneR W n x' y ∨ z ∈ oneC W H n x' y)
  | 0, acc, h => .inl h
  | x + 1, acc, h => by
    rw [rawX, List.mem_append, List.mem_append] at h
    rcases h with h | h
    · rcases rawX_mem h with h | ⟨x', h1, h2⟩
      · exact .inl h
      · exact .inr ⟨x', by omega, h2⟩
    · exact .inr ⟨x, by omega, h⟩
theorem rawY_mem {W H n : Int} {z : Int} : ∀ {y : Nat}, z ∈ rawY W H n y → ∃ y' x', y' < y ∧ x' < W.toNat ∧ (z ∈ oneR W n x' y' ∨ z ∈ oneC W H n x' y')
  | 0, h => by simp [rawY] at h
  | y + 1, h => by
    rw [rawY] at h
    rcases rawX_mem h with h | ⟨x', h1, h2⟩
    · obtain ⟨y', x', h1, h2⟩ := rawY_mem h
      exact ⟨y', x', by omega, h2⟩
    · exact ⟨y, x', by omega, h1, h2⟩
theorem plc_ne {W H n z : Int} (hW0 : 1 ≤ W) (hW : W ≤ 5) (hH : H ≤ 5) (hn0 : 1 ≤ n) (hn : n ≤ 5) (hz : z ∈ plc W H n) : bv z ≠ 0 := by
  unfold plc putAll at hz
  rw [putAll_mem] at hz
  have hz' := hz.resolve_right (by simp)
  obtain ⟨y, x, hy, hx, h⟩ := rawY_mem hz'
  have hyW := mul_bounds (a := (y : Int)) (b := W) (by omega) (by omega) (by omega) (by omega)
  rcases h with h | h
  · unfold oneR at h
    split at h
    · obtain rfl := List.mem_singleton.1 h
      have h5 : (y : Int) * W ≤ 4 * 5 := Int.mul_le_mul (by omega) hW (by omega) (by omega)
      exact maskR_ne _ _ (by omega) (by omega) (by omega)
    · simp at h
  · unfold oneC at h
    split at h
    · obtain rfl := List.mem_singleton.1 h
      have e : ((n.toNat : Int) - 1) = n - 1 := by omega
      have h6 : 0 ≤ ((y : Int) + (n - 1)) * W := Int.mul_nonneg (by omega) (by omega)
      have h5 : ((y : Int) + (n - 1)) * W ≤ 4 * 5 := Int.mul_le_mul (by omega) hW (by omega) (by omega)
      refine maskC_ne _ _ _ _ (by omega) ?_ ?_ <;> rw [e] <;> omega
    · simp at h
theorem isFl_flS {W H : Int} {ships fleet : List Int} (hW0 : 1 ≤ W) (hW : W ≤ 5) (hH : H ≤ 5) (hsh : ∀ j, j < ships.length → 1 ≤ ships.getD j 0 ∧ ships.getD j 0 ≤ 5) : isFl W H ships fleet = flS W H ships fleet := by
  unfold isFl flS
  apply decide_eq_decide.2
  have key : fleet.length = ships.length → ∀ k, k < fleet.length → fleet.getD k 0 ∈ plc W H (ships.getD k 0) → (gOn ships (fleet.take k) (fleet.getD k 0) = true ↔
      bits .and .i64 (fleet.getD k 0) (usedU fleet k) = 0 ∧ ¬ (0 < k ∧ ships.getD k 0 = ships.getD (k - 1) 0 ∧ fleet.getD k 0 < fleet.getD (k - 1) 0)) := by
    intro hle k hk hm
    have hne := plc_ne hW0 hW hH (hsh k (by omega)).1 (hsh k (by omega)).2 hm
    have e1 : (fleet.take k).length = k := by rw [List.length_take]; omega
    have e2 : 0 < k → (fleet.take k).getD (k - 1) 0 = fleet.getD (k - 1) 0 := fun h => by
      simp [List.getD_eq_getElem?_getD, List.getElem?_take, show k - 1 < k by omega]
    have h0 := noHit_used fleet (fleet.getD k 0) k (by omega)
    unfold gOn
    rw [e1]
    by_cases hc : 0 < k ∧ ships.getD k 0 = ships.getD (k - 1) 0 ∧ fleet.getD k 0 ≤ (fleet.take k).getD (k - 1) 0
    · rw [if_pos hc]
      refine ⟨fun h => by simp at h, ?_⟩
      rintro ⟨h1, h2⟩
      exfalso
      rw [e2 hc.1] at hc
      have heq : fleet.getD k 0 = fleet.getD (k - 1) 0 := by omega
      have h3 := (noHit_iff _ _).1 (h0.2 h1) (fleet.getD (k - 1) 0) (by
        rw [List.mem_take_iff_getElem]
        exact ⟨k - 1, by omega, by simp [show k - 1 < fleet.length by omega]⟩)
      rw [← heq, and_zero, BitVec.and_self] at h3
      exact hne h3
    · rw [if_neg hc, h0]
      refine ⟨fun h => ⟨h, fun h2 => hc ⟨h2.1, h2.2.1, by rw [e2 h2.1]; omega⟩⟩, fun h => h.1⟩
  constructor
  · rintro ⟨h1, h2⟩
    exact ⟨h1, fun k hk => ⟨(h2 k hk).1, (key h1 k hk (h2 k hk).1).1 (h2 k hk).2⟩⟩
  · rintro ⟨h1, h2⟩
    exact ⟨h1, fun k hk => ⟨(h2 k hk).1, (key h1 k hk (h2 k hk).1).2 (h2 k hk).2⟩⟩
end Go.Proofs.Ytcjokckidpophaa
