import Derived.Test.YtcjokckidpophaaGCore
import Derived.WalkKit
set_option linter.all false
namespace Go.G
open Go.RowKit
theorem run_next_value {P : Program} {s : Sem Value} {w w' : World} {v : Value} (h : s.run P w = .ok v w') : ((do pure (Next.value (← s))) : Sem Next).run P w = .ok (.value v) w' := by
  simp [h]
theorem run_next_skip {P : Program} {s : Sem Unit} {w w' : World} (h : s.run P w = .ok () w') : ((do s; pure Next.skip) : Sem Next).run P w = .ok .skip w' := by
  simp [h]
/-! ### Closed facts on types, by the kernel -/
def isSl (P : Program) (t : TypeId) : Bool := match P.underlying t with | some (.slice _) => true | _ => false
def slSz (P : Program) (t : TypeId) (sz : Nat) : Bool := match P.underlying t with | some (.slice e) => (match P.info? e with | some i => Nat.beq i.size sz | none => false) | _ => false
def isStr (P : Program) (t : TypeId) : Bool := match P.underlying t with | some .string => true | _ => false
def isInt (P : Program) (t : TypeId) (k : IntKind) : Bool := match P.underlying t with | some (.int k') => decide (k' = k) | _ => false
def notAgg (P : Program) (t : TypeId) : Bool := match P.underlying t with | some (.struct _) => false | some (.array _ _) => false | some _ => true | none => false
def aggSz (P : Program) (t : TypeId) (sz : Nat) : Bool := (match P.underlying t with | some (.struct _) => true | some (.array _ _) => true | _ => false) && (match P.info? t with | some i => Nat.beq i.size sz | none => false)
def fldAt (P : Program) (t : TypeId) (i off : Nat) : Bool := match P.underlying t with
  | some (.struct fs) => (match fs[i]? with | some f => Nat.beq f.offset off && (match P.info? f.type with | some j => !(Nat.beq j.size 0) | none => false) | none => false)
  | _ => false
def fldTy (P : Program) (t : TypeId) (i off : Nat) : Bool := match P.underlying t with
  | some (.struct fs) => (match fs[i]? with | some f => Nat.beq f.offset off && notAgg P f.type | none => false)
  | _ => false
theorem isSl_spec {P : Program} {t : TypeId} (h : isSl P t = true) : ∃ e, P.underlying t = some (.slice e) := by
  unfold isSl at h; split at h <;> simp_all
theorem slSz_spec {P : Program} {t : TypeId} {sz : Nat} (h : slSz P t sz = true) : ∃ e i, P.underlying t = some (.slice e) ∧ P.info? e = some i ∧ i.size = sz := by
  unfold slSz at h
  split at h
  · rename_i e he
    split at h
    · rename_i i hi; exact ⟨e, i, he, hi, Nat.eq_of_beq_eq_true h⟩
    · cases h
  · cases h
theorem isStr_spec {P : Program} {t : TypeId} (h : isStr P t = true) : P.underlying t = some .string := by
  unfold isStr at h; split at h <;> simp_all
theorem isInt_spec {P : Program} {t : TypeId} {k : IntKind} (h : isInt P t k = true) : P.underlying t = some (.int k) := by
  unfold isInt at h; split at h <;> simp_all
theorem notAgg_run {P : Program} {t : TypeId} (h : notAgg P t = true) (w : World) : (isAgg t).run P w = .ok false w := by
  unfold notAgg at h
  unfold isAgg
  split at h
  · cases h
  · cases h
  · rename_i d h1 h2 hd
    simp only [Sem.run_bind, run_underlying hd, Result.andThen_ok]
    cases d <;> first | (exact absurd rfl (h1 _)) | (exact absurd rfl (h2 _ _)) | simp
  · cases h
theorem aggSz_spec {P : Program} {t : TypeId} {sz : Nat} (h : aggSz P t sz = true) : (∀ w, (isAgg t).run P w = .ok true w) ∧ ∃ i, P.info? t = some i ∧ i.size = sz := by
  unfold aggSz at h
  rw [Bool.and_eq_true] at h
  obtain ⟨h1, h2⟩ := h
  constructor
  · intro w
    unfold isAgg
    split at h1
    · rename_i hd; simp [run_underlying hd]
    · rename_i hd; simp [run_underlying hd]
    · cases h1
  · split at h2
    · rename_i i hi; exact ⟨i, hi, Nat.eq_of_beq_eq_true h2⟩
    · cases h2
theorem fldAt_spec {P : Program} {t : TypeId} {i off : Nat} (h : fldAt P t i off = true) : ∃ fs f j, P.underlying t = some (.struct fs) ∧ fs[i]? = some f ∧ f.offset = off ∧ P.info? f.type = some j ∧ j.size ≠ 0 := by
  unfold fldAt at h
  split at h
  · rename_i fs hfs
    split at h
    · rename_i f hf
      rw [Bool.and_eq_true] at h
      obtain ⟨h1, h2⟩ := h
      split at h2
      · rename_i j hj
        refine ⟨fs, f, j, hfs, hf, Nat.eq_of_beq_eq_true h1, hj, fun e => ?_⟩
        rw [e] at h2; exact absurd h2 (by decide)
      · cases h2
    · cases h
  · cases h
theorem fldTy_spec {P : Program} {t : TypeId} {i off : Nat} (h : fldTy P t i off = true) : ∃ fs f, P.underlying t = some (.struct fs) ∧ fs[i]? = some f ∧ f.offset = off ∧ notAgg P f.type = true := by
  unfold fldTy at h
  split at h
  · rename_i fs hfs
    split at h
    · rename_i f hf
      rw [Bool.and_eq_true] at h
      exact ⟨fs, f, hfs, hf, Nat.eq_of_beq_eq_true h.1, h.2⟩
    · cases h
  · cases h

section
variable {P : Program} {n : Nat} {C : World → Prop} {ρ : Env} {d : Option Tmp} {ty : TypeId} {pos : String} {after : Array Edge} {g : Option (Nat × Bool)}
theorem q1_of_run {o : Oper} {v : Value} (h : ∀ a, Fits n a ρ → ∀ w, C w → (execOp a.eval o).run P w = .ok (.value v) w) : Q1 P n C o ρ v := by
  refine ⟨fun a ha w hw => ?_⟩
  unfold Oper.quietAt
  rw [h a ha w hw]
  exact ⟨rfl, rfl⟩
theorem q_move {x : Operand} {v : Value} (hx : ev ρ x = some v) : Q1 P n C ⟨d, .move x, ty, pos, after, g⟩ ρ v :=
  q1_of_run fun a ha w _ => by simp [execOp, ha.eval hx]
theorem q_assign {x : Operand} {v : Value} (hx : ev ρ x = some v) : Q1 P n C ⟨d, .assign x, ty, pos, after, g⟩ ρ v :=
  q1_of_run fun a ha w _ => by simp [execOp, ha.eval hx]
theorem q_pickT {c x y : Operand} {v : Value} (hc : ev ρ c = some (.bool true)) (hx : ev ρ x = some v) : Q1 P n C ⟨d, .pick c x y, ty, pos, after, g⟩ ρ v :=
  q1_of_run fun a ha w _ => by simp [execOp, asBool, ha.eval hc, ha.eval hx]
theorem q_pickF {c x y : Operand} {v : Value} (hc : ev ρ c = some (.bool false)) (hx : ev ρ y = some v) : Q1 P n C ⟨d, .pick c x y, ty, pos, after, g⟩ ρ v :=
  q1_of_run fun a ha w _ => by simp [execOp, asBool, ha.eval hc, ha.eval hx]
/-- operations on two whole numbers of one kind -/
def ibin : BinOp → IntKind → Int → Int → Option Value
  | .add, k, a, b => some (.int k (k.wrap (a + b)))
  | .sub, k, a, b => some (.int k (k.wrap (a - b)))
  | .mul, k, a, b => some (.int k (k.wrap (a * b)))
  | .and, k, a, b => some (.int k (bits .and k a b))
  | .or, k, a, b => some (.int k (bits .or k a b))
  | .xor, k, a, b => some (.int k (bits .xor k a b))
  | .andNot, k, a, b => some (.int k (bits .andNot k a b))
  | .eql, _, a, b => some (.bool (decide (a = b)))
  | .neq, _, a, b => some (.bool (!decide (a = b)))
  | .lss, _, a, b => some (.bool (decide (a < b)))
  | .leq, _, a, b => some (.bool (decide (a ≤ b)))
  | .gtr, _, a, b => some (.bool (decide (b < a)))
  | .geq, _, a, b => some (.bool (decide (b ≤ a)))
  | _, _, _, _ => none
theorem ibin_run {op : BinOp} {k : IntKind} {a b : Int} {v : Value} (h : ibin op k a b = some v) (T : TypeId) (x y : Operand) (w : World) :
    ((do eqGuard op T x y (.int k a) (.int k b); binOp op T (.int k a) (.int k b)) : Sem Value).run P w = .ok v w := by
  cases op <;> simp only [ibin, Option.some.injEq, reduceCtorEq] at h <;> subst h <;>
    simp [eqGuard, binOp, Op.intArith, Op.intBits, Op.intCmp, bits] <;> (try rfl)
theorem q_bin {op : BinOp} {x y : Operand} {T T' : TypeId} {k : IntKind} {a b : Int} {v : Value} (hx : ev ρ x = some (.int k a)) (hy : ev ρ y = some (.int k b)) (hv : ibin op k a b = some v) :
    Q1 P n C ⟨d, .binOp op T x y T', ty, pos, after, g⟩ ρ v :=
  q1_of_run fun A ha w _ => by
    have := ibin_run (P := P) hv T x y w
    simp only [execOp, ha.eval hx, ha.eval hy]
    exact run_next_value this
/-- the value by another name -/
theorem q_as {o : Oper} {u v : Value} (h : Q1 P n C o ρ u) (e : u = v) : Q1 P n C o ρ v := e ▸ h
theorem wrap_i64 {x : Int} (h : -9223372036854775808 ≤ x ∧ x ≤ 9223372036854775807) : IntKind.i64.wrap x = x := by
  simp only [IntKind.wrap, IntKind.bits, IntKind.signed]
  simp
  split <;> omega
theorem q_addI {x y : Operand} {T T' : TypeId} {a b : Int} (hx : ev ρ x = some (.int .i64 a)) (hy : ev ρ y = some (.int .i64 b)) (h : -9223372036854775808 ≤ a + b ∧ a + b ≤ 9223372036854775807) :
    Q1 P n C ⟨d, .binOp .add T x y T', ty, pos, after, g⟩ ρ (.int .i64 (a + b)) := q_as (q_bin hx hy rfl) (by rw [wrap_i64 h])
theorem q_subI {x y : Operand} {T T' : TypeId} {a b : Int} (hx : ev ρ x = some (.int .i64 a)) (hy : ev ρ y = some (.int .i64 b)) (h : -9223372036854775808 ≤ a - b ∧ a - b ≤ 9223372036854775807) :
    Q1 P n C ⟨d, .binOp .sub T x y T', ty, pos, after, g⟩ ρ (.int .i64 (a - b)) := q_as (q_bin hx hy rfl) (by rw [wrap_i64 h])
theorem q_mulI {x y : Operand} {T T' : TypeId} {a b : Int} (hx : ev ρ x = some (.int .i64 a)) (hy : ev ρ y = some (.int .i64 b)) (h : -9223372036854775808 ≤ a * b ∧ a * b ≤ 9223372036854775807) :
    Q1 P n C ⟨d, .binOp .mul T x y T', ty, pos, after, g⟩ ρ (.int .i64 (a * b)) := q_as (q_bin hx hy rfl) (by rw [wrap_i64 h])
theorem q_quo {x y : Operand} {T T' : TypeId} {k : IntKind} {a b : Int} (hx : ev ρ x = some (.int k a)) (hy : ev ρ y = some (.int k b)) (h : b ≠ 0) :
    Q1 P n C ⟨d, .binOp .quo T x y T', ty, pos, after, g⟩ ρ (.int k (k.wrap (a.tdiv b))) :=
  q1_of_run fun A ha w _ => by
    simp only [execOp, ha.eval hx, ha.eval hy]
    refine run_next_value ?_
    simp [eqGuard, binOp, Op.intDiv, h]
theorem q_quoI {x y : Operand} {T T' : TypeId} {a b : Int} (hx : ev ρ x = some (.int .i64 a)) (hy : ev ρ y = some (.int .i64 b)) (h : 0 ≤ a ∧ 0 < b ∧ a ≤ 9223372036854775807) :
    Q1 P n C ⟨d, .binOp .quo T x y T', ty, pos, after, g⟩ ρ (.int .i64 (a / b)) := q_as (q_quo hx hy (by omega)) (by
      rw [Int.tdiv_eq_ediv_of_nonneg h.1, wrap_i64]
      have h1 : 0 ≤ a / b := Int.ediv_nonneg h.1 (by omega)
      have h2 : a / b ≤ a := Int.ediv_le_self _ h.1
      omega)
theorem q_rem {x y : Operand} {T T' : TypeId} {k : IntKind} {a b : Int} (hx : ev ρ x = some (.int k a)) (hy : ev ρ y = some (.int k b)) (h : b ≠ 0) :
    Q1 P n C ⟨d, .binOp .rem T x y T', ty, pos, after, g⟩ ρ (.int k (a.tmod b)) :=
  q1_of_run fun A ha w _ => by
    simp only [execOp, ha.eval hx, ha.eval hy]
    refine run_next_value ?_
    simp [eqGuard, binOp, Op.intDiv, h]
theorem q_remI {x y : Operand} {T T' : TypeId} {k : IntKind} {a b : Int} (hx : ev ρ x = some (.int k a)) (hy : ev ρ y = some (.int k b)) (h : 0 ≤ a ∧ 0 < b) :
    Q1 P n C ⟨d, .binOp .rem T x y T', ty, pos, after, g⟩ ρ (.int k (a % b)) := q_as (q_rem hx hy (by omega)) (by rw [Int.tmod_eq_emod_of_nonneg h.1])
def ishl (k : IntKind) (x y : Int) : Int := k.wrap (x * 2 ^ min y.toNat k.bits)
def ishr (k : IntKind) (x y : Int) : Int := x.fdiv (2 ^ min y.toNat k.bits)
theorem q_shl {x y : Operand} {T T' : TypeId} {k k' : IntKind} {a b : Int} (hx : ev ρ x = some (.int k a)) (hy : ev ρ y = some (.int k' b)) (h : 0 ≤ b) :
    Q1 P n C ⟨d, .binOp .shl T x y T', ty, pos, after, g⟩ ρ (.int k (ishl k a b)) :=
  q1_of_run fun A ha w _ => by
    simp only [execOp, ha.eval hx, ha.eval hy]
    refine run_next_value ?_
    have : ¬ b < 0 := by omega
    simp [eqGuard, binOp, Op.shift, this, ishl]
theorem q_shr {x y : Operand} {T T' : TypeId} {k k' : IntKind} {a b : Int} (hx : ev ρ x = some (.int k a)) (hy : ev ρ y = some (.int k' b)) (h : 0 ≤ b) :
    Q1 P n C ⟨d, .binOp .shr T x y T', ty, pos, after, g⟩ ρ (.int k (ishr k a b)) :=
  q1_of_run fun A ha w _ => by
    simp only [execOp, ha.eval hx, ha.eval hy]
    refine run_next_value ?_
    have : ¬ b < 0 := by omega
    simp [eqGuard, binOp, Op.shift, this, ishr]
theorem q_cmpT {op : BinOp} {x y : Operand} {T T' : TypeId} {k : IntKind} {a b : Int} {p : Prop} [Decidable p] (hx : ev ρ x = some (.int k a)) (hy : ev ρ y = some (.int k b)) (hv : ibin op k a b = some (.bool (decide p))) (h : p) :
    Q1 P n C ⟨d, .binOp op T x y T', ty, pos, after, g⟩ ρ (.bool true) := q_as (q_bin hx hy hv) (by rw [decide_eq_true h])
theorem q_cmpF {op : BinOp} {x y : Operand} {T T' : TypeId} {k : IntKind} {a b : Int} {p : Prop} [Decidable p] (hx : ev ρ x = some (.int k a)) (hy : ev ρ y = some (.int k b)) (hv : ibin op k a b = some (.bool (decide p))) (h : ¬ p) :
    Q1 P n C ⟨d, .binOp op T x y T', ty, pos, after, g⟩ ρ (.bool false) := q_as (q_bin hx hy hv) (by rw [decide_eq_false h])
theorem q_neqT {x y : Operand} {T T' : TypeId} {k : IntKind} {a b : Int} (hx : ev ρ x = some (.int k a)) (hy : ev ρ y = some (.int k b)) (h : ¬ a = b) :
    Q1 P n C ⟨d, .binOp .neq T x y T', ty, pos, after, g⟩ ρ (.bool true) := q_as (q_bin hx hy rfl) (by rw [decide_eq_false h]; rfl)
theorem q_neqF {x y : Operand} {T T' : TypeId} {k : IntKind} {a b : Int} (hx : ev ρ x = some (.int k a)) (hy : ev ρ y = some (.int k b)) (h : a = b) :
    Q1 P n C ⟨d, .binOp .neq T x y T', ty, pos, after, g⟩ ρ (.bool false) := q_as (q_bin hx hy rfl) (by rw [decide_eq_true h]; rfl)
theorem q_not {x : Operand} {T : TypeId} {b : Bool} (hx : ev ρ x = some (.bool b)) : Q1 P n C ⟨d, .unOp .not T x, ty, pos, after, g⟩ ρ (.bool (!b)) :=
  q1_of_run fun A ha w _ => by
    simp only [execOp, ha.eval hx]
    refine run_next_value ?_
    simp [Op.unary]
theorem q_notT {x : Operand} {T : TypeId} (hx : ev ρ x = some (.bool true)) : Q1 P n C ⟨d, .unOp .not T x, ty, pos, after, g⟩ ρ (.bool false) := q_not hx
theorem q_notF {x : Operand} {T : TypeId} (hx : ev ρ x = some (.bool false)) : Q1 P n C ⟨d, .unOp .not T x, ty, pos, after, g⟩ ρ (.bool true) := q_not hx
theorem q_neg {x : Operand} {T : TypeId} {k : IntKind} {a : Int} (hx : ev ρ x = some (.int k a)) : Q1 P n C ⟨d, .unOp .neg T x, ty, pos, after, g⟩ ρ (.int k (k.wrap (0 - a))) :=
  q1_of_run fun A ha w _ => by
    simp only [execOp, ha.eval hx]
    refine run_next_value ?_
    simp [Op.unary, Op.intArith]
theorem q_conv {x : Operand} {s t : TypeId} {k k' : IntKind} {a : Int} (hx : ev ρ x = some (.int k a)) (hs : isInt P s k = true) (ht : isInt P t k' = true) :
    Q1 P n C ⟨d, .convert s t x, ty, pos, after, g⟩ ρ (.int k' (k'.wrap a)) :=
  q1_of_run fun A ha w _ => by
    simp only [execOp, ha.eval hx]
    refine run_next_value ?_
    simp [convert, run_underlying (isInt_spec hs), run_underlying (isInt_spec ht), Conv.intToInt]
theorem q_convI {x : Operand} {s t : TypeId} {k : IntKind} {a : Int} (hx : ev ρ x = some (.int k a)) (hs : isInt P s k = true) (ht : isInt P t .i64 = true) (h : -9223372036854775808 ≤ a ∧ a ≤ 9223372036854775807) :
    Q1 P n C ⟨d, .convert s t x, ty, pos, after, g⟩ ρ (.int .i64 a) := q_as (q_conv hx hs ht) (by rw [wrap_i64 h])
theorem wrap_u64 {x : Int} (h : 0 ≤ x ∧ x ≤ 18446744073709551615) : IntKind.u64.wrap x = x := by
  simp only [IntKind.wrap, IntKind.bits, IntKind.signed]
  simp
  omega
theorem q_convU {x : Operand} {s t : TypeId} {k : IntKind} {a : Int} (hx : ev ρ x = some (.int k a)) (hs : isInt P s k = true) (ht : isInt P t .u64 = true) (h : 0 ≤ a ∧ a ≤ 18446744073709551615) :
    Q1 P n C ⟨d, .convert s t x, ty, pos, after, g⟩ ρ (.int .u64 a) := q_as (q_conv hx hs ht) (by rw [wrap_u64 h])
theorem wrap_u8 {x : Int} (h : 0 ≤ x ∧ x ≤ 255) : IntKind.u8.wrap x = x := by
  simp only [IntKind.wrap, IntKind.bits, IntKind.signed]
  simp
  omega
theorem q_conv8 {x : Operand} {s t : TypeId} {k : IntKind} {a : Int} (hx : ev ρ x = some (.int k a)) (hs : isInt P s k = true) (ht : isInt P t .u8 = true) (h : 0 ≤ a ∧ a ≤ 255) :
    Q1 P n C ⟨d, .convert s t x, ty, pos, after, g⟩ ρ (.int .u8 a) := q_as (q_conv hx hs ht) (by rw [wrap_u8 h])
theorem q_lenS {x : Operand} {t : TypeId} {A : Option Addr} {m c : Nat} (hx : ev ρ x = some (.slice A m c)) (ht : isSl P t = true) :
    Q1 P n C ⟨d, .call { callee := .builtin .len, args := #[x], argTypes := #[t] }, ty, pos, after, g⟩ ρ (.int .i64 m) :=
  q1_of_run fun a ha w _ => by
    obtain ⟨e, he⟩ := isSl_spec ht
    simp [execOp, resolve, invoke, builtin, Builtin.len_, ha.eval hx, run_underlying he, goInt]
theorem q_lenStr {x : Operand} {t : TypeId} {s : ByteArray} (hx : ev ρ x = some (.string s)) (ht : isStr P t = true) :
    Q1 P n C ⟨d, .call { callee := .builtin .len, args := #[x], argTypes := #[t] }, ty, pos, after, g⟩ ρ (.int .i64 s.size) :=
  q1_of_run fun a ha w _ => by
    simp [execOp, resolve, invoke, builtin, Builtin.len_, ha.eval hx, run_underlying (isStr_spec ht), goInt]
/-- the address of an element of a slice -/
def elemPtr (A : Option Addr) (off : Nat) : Value := .pointer (A.map fun a => a.add off)
theorem q_idx {x ix : Operand} {t : TypeId} {A : Option Addr} {m c sz : Nat} {k : IntKind} {i : Int} (hx : ev ρ x = some (.slice A m c)) (hi : ev ρ ix = some (.int k i)) (ht : slSz P t sz = true)
    (hA : ∀ w, C w → A.isSome = true) (h : 0 ≤ i ∧ i < m) : Q1 P n C ⟨d, .indexAddr t x ix, ty, pos, after, g⟩ ρ (elemPtr A (i.toNat * sz)) :=
  q1_of_run fun a ha w hw => by
    obtain ⟨e, inf, he, hinf, hsz⟩ := slSz_spec ht
    obtain ⟨ad, rfl⟩ := Option.isSome_iff_exists.1 (hA w hw)
    simp only [execOp, ha.eval hx, ha.eval hi]
    refine run_next_value ?_
    simp [Instr.indexAt, asIntOf, run_underlying he, h.1, h.2, sizeOf, typeInfo, hinf, hsz, elemPtr]
theorem q_fldE {x : Operand} {t : TypeId} {A : Option Addr} {o i off : Nat} (hx : ev ρ x = some (elemPtr A o)) (ht : fldAt P t i off = true) (hA : ∀ w, C w → A.isSome = true) :
    Q1 P n C ⟨d, .fieldAddr t x i, ty, pos, after, g⟩ ρ (elemPtr A (o + off)) :=
  q1_of_run fun a ha w hw => by
    obtain ⟨fs, f, j, h1, h2, h3, h4, h5⟩ := fldAt_spec ht
    obtain ⟨ad, rfl⟩ := Option.isSome_iff_exists.1 (hA w hw)
    simp only [execOp, ha.eval hx]
    refine run_next_value ?_
    have : (ad.add o).add off = ad.add (o + off) := by
      unfold Addr.add; split <;> split <;> simp_all <;> omega
    simp [Instr.fieldAt, run_underlying h1, h2, elemPtr, Instr.sureAddr, fieldPlace, sizeOf, typeInfo, h4, h5, h3, this]
theorem q_fldP {x : Operand} {t : TypeId} {b o i off : Nat} (hx : ev ρ x = some (.pointer (some ⟨b, o, none⟩))) (ht : fldAt P t i off = true) :
    Q1 P n C ⟨d, .fieldAddr t x i, ty, pos, after, g⟩ ρ (.pointer (some ⟨b, o + off, none⟩)) :=
  q1_of_run fun a ha w _ => by
    obtain ⟨fs, f, j, h1, h2, h3, h4, h5⟩ := fldAt_spec ht
    simp only [execOp, ha.eval hx]
    refine run_next_value ?_
    have : (⟨b, o, none⟩ : Addr).add off = ⟨b, o + off, none⟩ := by
      unfold Addr.add; split <;> simp_all
    simp [Instr.fieldAt, run_underlying h1, h2, Instr.sureAddr, fieldPlace, sizeOf, typeInfo, h4, h5, h3, this]
/-- what stands at a pointer -/
def pts (w : World) (p : Value) (v : Value) : Prop := ∃ a, p = .pointer (some a) ∧ w.cell? a = some v
theorem q_ld {x : Operand} {t : TypeId} {p v : Value} (hx : ev ρ x = some p) (ht : notAgg P t = true) (hp : ∀ w, C w → pts w p v) : Q1 P n C ⟨d, .load t x, ty, pos, after, g⟩ ρ v :=
  q1_of_run fun a ha w hw => by
    obtain ⟨ad, rfl, hc⟩ := hp w hw
    simp only [execOp, ha.eval hx]
    refine run_next_value ?_
    simp [Instr.loadAt, Instr.sureAddr, loadVar, notAgg_run ht, hc]
theorem q_field {x : Operand} {t : TypeId} {cs : Array Value} {i off : Nat} {v : Value} (hx : ev ρ x = some (.agg cs)) (ht : fldTy P t i off = true) (hv : cs[off]? = some v) : Q1 P n C ⟨d, .field t x i, ty, pos, after, g⟩ ρ v :=
  q1_of_run fun a ha w hw => by
    obtain ⟨fs, f, h1, h2, h3, h4⟩ := fldTy_spec ht
    simp only [execOp, ha.eval hx]
    refine run_next_value ?_
    simp [Instr.field, run_underlying h1, h2, asAgg, part, notAgg_run h4, h3, hv]
theorem q_extract {x : Operand} {vs : Array Value} {i : Nat} {v : Value} (hx : ev ρ x = some (.tuple vs)) (hv : vs[i]? = some v) : Q1 P n C ⟨d, .extract x i, ty, pos, after, g⟩ ρ v :=
  q1_of_run fun a ha w hw => by
    simp only [execOp, ha.eval hx]
    refine run_next_value ?_
    simp [Instr.extract, hv]
theorem q_func {fn : Fn} {first captured : List Operand} {vs us : List Value} (h1 : evs ρ first = some vs) (h2 : evs ρ captured = some us) :
    Q1 P n C ⟨d, .makeFunc fn first.toArray captured.toArray, ty, pos, after, g⟩ ρ (.func fn vs.toArray us.toArray) :=
  q1_of_run fun a ha w hw => by
    simp [execOp, Instr.makeFunc, ha.evals h1, ha.evals h2]
end
end Go.G
