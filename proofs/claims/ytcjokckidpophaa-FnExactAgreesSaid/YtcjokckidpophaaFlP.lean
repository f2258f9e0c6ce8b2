/- The fleet: different cells. Plain. -/
import Derived.Test.YtcjokckidpophaaFlO
set_option linter.all false
namespace Go.Proofs.Ytcjokckidpophaa
open Go.RowKit Go.G
theorem bit_at (r : BitVec 64) (c : Nat) (h1 : c < 64) : bits .and .i64 (ishr .i64 r.toInt c) 1 = 1 ↔ r.getLsbD c = true := by
  have e : bv (ishr .i64 r.toInt c) = r.sshiftRight c := by
    unfold ishr
    have e1 : min (c : Int).toNat IntKind.i64.bits = c := by rw [Int.toNat_natCast]; exact Nat.min_eq_left (by simp [IntKind.bits]; omega)
    rw [e1]
    show _ = BitVec.ofInt 64 (r.toInt >>> c)
    rw [Int.shiftRight_eq_div_pow]
    congr 1
    rw [Int.fdiv_eq_ediv_of_nonneg _ (by exact Int.le_of_lt (Int.pow_pos (by omega)))]
    simp
  rw [and_bv, e]
  have h2 : (r.sshiftRight c &&& bv 1).toNat = (r.sshiftRight c).toNat % 2 := by
    rw [BitVec.toNat_and, show (bv 1).toNat = 1 from rfl, Nat.and_one_is_mod]
  have h3 : (r.sshiftRight c).getLsbD 0 = r.getLsbD c := by
    rw [BitVec.getLsbD_sshiftRight]
    simp [h1]
  rw [← h3, BitVec.toInt_eq_toNat_cond, h2]
  have h4 : (r.sshiftRight c).getLsbD 0 = decide ((r.sshiftRight c).toNat % 2 = 1) := by
    simp [BitVec.getLsbD, Nat.testBit]
    rfl
  rw [h4, decide_eq_true_eq]
  have := Nat.mod_lt (r.sshiftRight c).toNat (show 0 < 2 by omega)
  split <;> omega
theorem bv_ishl1 (p : Nat) (h : p < 64) : bv (ishl .i64 1 p) = BitVec.twoPow 64 p := by
  rw [ishl, bv_wrap]
  have e : min (p : Int).toNat IntKind.i64.bits = p := by rw [Int.toNat_natCast]; exact Nat.min_eq_left (by simp [IntKind.bits]; omega)
  rw [e, Int.one_mul]
  apply BitVec.eq_of_toNat_eq
  rw [BitVec.toNat_ofInt, BitVec.toNat_twoPow]
  have hp : (2 : Int) ^ p = ((2 ^ p : Nat) : Int) := by simp
  rw [hp, ← Int.natCast_emod, Int.toNat_natCast]
def setB (cells : List Int) : Nat → BitVec 64
  | 0 => 0
  | k + 1 => setB cells k ||| bv (ishl .i64 1 (cells.getD k 0))
theorem setD_setB (cells : List Int) : ∀ k, setD cells k = (setB cells k).toInt
  | 0 => rfl
  | k + 1 => by rw [setD, setB, or_bv, setD_setB cells k, bv_toInt]
theorem setB_bit (cells : List Int) (hc : ∀ x ∈ cells, 0 ≤ x ∧ x < 64) : ∀ k, k ≤ cells.length → ∀ i : Nat, i < 64 → ((setB cells k).getLsbD i = true ↔ (i : Int) ∈ cells.take k)
  | 0, _, i, _ => by simp [setB]
  | k + 1, h, i, hi => by
    have ih := setB_bit cells hc k (by omega) i hi
    have e : cells[k] = cells.getD k 0 := by simp [show k < cells.length by omega]
    obtain ⟨p, hp⟩ := Int.eq_ofNat_of_zero_le (hc cells[k] (List.getElem_mem _)).1
    have hp2 := (hc cells[k] (List.getElem_mem _)).2
    rw [setB, BitVec.getLsbD_or, Bool.or_eq_true, ih, List.take_succ_eq_append_getElem (by omega), ← e, hp, bv_ishl1 p (by omega), BitVec.getLsbD_twoPow, List.mem_append, List.mem_singleton]
    refine or_congr Iff.rfl ?_
    simp
    omega
theorem nodup_take (cells : List Int) : cells.Nodup ↔ ∀ k, k < cells.length → cells.getD k 0 ∉ cells.take k := by
  unfold List.Nodup
  rw [List.pairwise_iff_getElem]
  constructor
  · intro h k hk hm
    rw [List.mem_take_iff_getElem] at hm
    obtain ⟨i, hi, he⟩ := hm
    have := h i k (by omega) hk (by omega)
    simp [hk] at he
    exact this he
  · intro h i j hi hj hij he
    refine h j hj ?_
    rw [List.mem_take_iff_getElem]
    exact ⟨i, by omega, by simp [hj, he]⟩
theorem difS_iff {W H : Int} {cells : List Int} (hWH : W * H ≤ 64) : difS W H cells = true ↔ (∀ x ∈ cells, 0 ≤ x ∧ x ≤ W * H - 1) ∧ cells.Nodup := by
  unfold difS
  rw [decide_eq_true_eq, nodup_take]
  have hm : ∀ k, k < cells.length → cells.getD k 0 ∈ cells := fun k hk => by simp [hk]
  have key : (∀ x ∈ cells, 0 ≤ x ∧ x ≤ W * H - 1) → ∀ k, k < cells.length → (bits .and .i64 (ishr .i64 (setD cells k) (cells.getD k 0)) 1 = 1 ↔ cells.getD k 0 ∈ cells.take k) := by
    intro h k hk
    have hk' := h _ (hm k hk)
    obtain ⟨p, hp⟩ := Int.eq_ofNat_of_zero_le hk'.1
    rw [setD_setB, hp, bit_at _ p (by omega), setB_bit cells (fun x hx => by have := h x hx; omega) k (by omega) p (by omega)]
  constructor
  · intro h
    have h1 : ∀ x ∈ cells, 0 ≤ x ∧ x ≤ W * H - 1 := by
      intro x hx
      obtain ⟨i, hi, rfl⟩ := List.getElem_of_mem hx
      have := (h i hi).1
      simpa [hi] using this
    exact ⟨h1, fun k hk hh => (h k hk).2 ((key h1 k hk).2 hh)⟩
  · rintro ⟨h1, h2⟩ k hk
    exact ⟨h1 _ (hm k hk), fun hh => h2 k hk ((key h1 k hk).1 hh)⟩
theorem rising_iff (cells : List Int) (lo hi : Int) : (∀ j, j < (cells.mergeSort fun x y => decide (x ≤ y)).length → lo ≤ (cells.mergeSort fun x y => decide (x ≤ y)).getD j 0 ∧ (cells.mergeSort fun x y => decide (x ≤ y)).getD j 0 ≤ hi ∧
      (0 < j → (cells.mergeSort fun x y => decide (x ≤ y)).getD (j - 1) 0 < (cells.mergeSort fun x y => decide (x ≤ y)).getD j 0)) ↔ (∀ x ∈ cells, lo ≤ x ∧ x ≤ hi) ∧ cells.Nodup := by
  have hp : (cells.mergeSort fun x y => decide (x ≤ y)).Perm cells := List.mergeSort_perm _ _
  have hs : (cells.mergeSort fun x y => decide (x ≤ y)).Pairwise (fun x y => decide (x ≤ y) = true) := List.pairwise_mergeSort (fun a b c h1 h2 => by simp at *; omega) (fun a b => by simp; omega) _
  generalize (cells.mergeSort fun x y => decide (x ≤ y)) = l at hp hs
  rw [← hp.nodup_iff]
  have hmem : (∀ x ∈ cells, lo ≤ x ∧ x ≤ hi) ↔ ∀ x ∈ l, lo ≤ x ∧ x ≤ hi := by simp only [hp.mem_iff]
  rw [hmem]
  constructor
  · intro h
    have h1 : ∀ i (hi : i < l.length), l.getD i 0 = l[i] := fun i hi => by simp [hi]
    have h2 : ∀ d i, (hd : i + d + 1 < l.length) → l[i] < l[i + d + 1] := by
      intro d
      induction d with
      | zero => intro i hd; have := (h (i + 1) hd).2.2 (by omega); rw [h1 _ hd, show i + 1 - 1 = i from by omega, h1 i (by omega)] at this; exact this
      | succ d ih =>
        intro i hd
        have h3 := ih i (by omega)
        have h4 := (h (i + (d + 1) + 1) hd).2.2 (by omega)
        rw [h1 _ hd, show i + (d + 1) + 1 - 1 = i + d + 1 from by omega, h1 _ (by omega)] at h4
        omega
    refine ⟨fun x hx => ?_, ?_⟩
    · obtain ⟨i, hi, rfl⟩ := List.getElem_of_mem hx
      have := h i hi
      rw [h1 i hi] at this
      exact ⟨this.1, this.2.1⟩
    · unfold List.Nodup
      rw [List.pairwise_iff_getElem]
      intro i j hi hj hij
      have := h2 (j - i - 1) i (by omega)
      simp only [show i + (j - i - 1) + 1 = j from by omega] at this
      omega
  · rintro ⟨h1, h2⟩ j hj
    have e1 : l.getD j 0 = l[j] := by simp [hj]
    rw [e1]
    refine ⟨(h1 _ (List.getElem_mem hj)).1, (h1 _ (List.getElem_mem hj)).2, fun h0 => ?_⟩
    have e2 : l.getD (j - 1) 0 = l[j - 1] := by simp [show j - 1 < l.length by omega]
    rw [e2]
    unfold List.Nodup at h2
    rw [List.pairwise_iff_getElem] at h2 hs
    have h3 := h2 (j - 1) j (by omega) hj (by omega)
    have h4 := hs (j - 1) j (by omega) hj (by omega)
    simp at h4
    omega
end Go.Proofs.Ytcjokckidpophaa
