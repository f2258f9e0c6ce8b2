import Derived.Test.YtcjokckidpophaaGAdd
set_option linter.all false
namespace Go.G
abbrev bv (x : Int) : BitVec 64 := BitVec.ofInt 64 x
theorem wrap_bv (r : BitVec 64) : IntKind.i64.wrap r.toNat = r.toInt := by
  have h := r.isLt
  simp only [IntKind.wrap, IntKind.bits, IntKind.signed]
  rw [BitVec.toInt_eq_toNat_cond]
  simp
  split <;> split <;> omega
theorem and_bv (x y : Int) : bits .and .i64 x y = (bv x &&& bv y).toInt := by rw [← wrap_bv]; rfl
theorem or_bv (x y : Int) : bits .or .i64 x y = (bv x ||| bv y).toInt := by rw [← wrap_bv]; rfl
theorem andNot_bv (x y : Int) : bits .andNot .i64 x y = (bv x &&& ~~~ bv y).toInt := by rw [← wrap_bv]; rfl
theorem bv_toInt (r : BitVec 64) : bv r.toInt = r := BitVec.ofInt_toInt
theorem bv_and (x y : Int) : bv (bits .and .i64 x y) = bv x &&& bv y := by rw [and_bv, bv_toInt]
theorem bv_or (x y : Int) : bv (bits .or .i64 x y) = bv x ||| bv y := by rw [or_bv, bv_toInt]
theorem bv_andNot (x y : Int) : bv (bits .andNot .i64 x y) = bv x &&& ~~~ bv y := by rw [andNot_bv, bv_toInt]
theorem and1_01 (x : Int) : bits .and .i64 x 1 = 0 ∨ bits .and .i64 x 1 = 1 := by
  rw [and_bv]
  have h : (bv x &&& bv 1).toNat = (bv x).toNat % 2 := by
    rw [BitVec.toNat_and, show (bv 1).toNat = 1 from rfl, Nat.and_one_is_mod]
  rw [BitVec.toInt_eq_toNat_cond, h]
  have := Nat.mod_lt (bv x).toNat (show 0 < 2 by omega)
  split <;> omega
theorem and1_ne {x : Int} (h : ¬ bits .and .i64 x 1 = 0) : bits .and .i64 x 1 = 1 := (and1_01 x).resolve_left h
theorem and1_ne' {x : Int} (h : ¬ bits .and .i64 x 1 = 1) : bits .and .i64 x 1 = 0 := (and1_01 x).resolve_right h
end Go.G
