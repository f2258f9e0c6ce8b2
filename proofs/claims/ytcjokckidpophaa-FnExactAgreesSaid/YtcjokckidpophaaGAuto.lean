import Derived.Test.YtcjokckidpophaaGEff
import Derived.KernelRfl
import Derived.Laws.Cells
set_option linter.all false
namespace Go.G
open Go.RowKit
section
variable {P : Program} {n : Nat} {C : World → Prop} {ρ : Env} {d : Option Tmp} {ty : TypeId} {pos : String} {after : Array Edge} {g : Option (Nat × Bool)} {w0 : World} {as : List Asn}
/-- read in every world of the class -/
abbrev RC {α : Type} (w0 : World) (as : List Asn) (kd : Kd α) (A : Option Addr) (xs : List α) : Prop := ∀ w, cls w0 as w → RdA kd w A xs
theorem ri {α : Type} {kd : Kd α} {A : Option Addr} {xs : List α} (h : RdA kd w0 A xs) : RC w0 as kd A xs := fun _ hw => h.ext hw.1
theorem ro {α : Type} {e : Enc α} {A : Option Addr} {xs : List α} {c : Nat} {T : TypeId} (h : rowE e A c T xs ∈ as) : RC w0 as (Kd.of e) A xs := fun _ hw => let ⟨_, hF⟩ := hw.get h; rowE_rd hF
/-- the address of an element of what is read -/
theorem q_ix {α : Type} {kd : Kd α} {xs : List α} {A : Option Addr} (ha : RC w0 as kd A xs) {x ix : Operand} {t : TypeId} {m c : Nat} {k : IntKind} {i : Int} (hx : ev ρ x = some (.slice A m c)) (hi : ev ρ ix = some (.int k i)) (ht : slSz P t kd.sz = true)
    (hm : m = xs.length) (h0 : 0 ≤ i) (h1 : i < xs.length) : Q1 P n (cls w0 as) ⟨d, .indexAddr t x ix, ty, pos, after, g⟩ ρ (elemPtr A (i.toNat * kd.sz)) :=
  q_idx hx hi ht (fun w hw => (ha w hw).some_ h0 h1) ⟨h0, by rw [hm]; exact h1⟩
theorem q_leI {k : IntKind} {xs : List Int} {A : Option Addr} (ha : RC w0 as (kInt k) A xs) {x : Operand} {t : TypeId} {i : Int} (hx : ev ρ x = some (elemPtr A (i.toNat * 1))) (ht : notAgg P t = true) (h0 : 0 ≤ i) (h1 : i < xs.length) :
    Q1 P n (cls w0 as) ⟨d, .load t x, ty, pos, after, g⟩ ρ (.int k (xs.getD i.toNat 0)) :=
  q_ld hx ht fun w hw => (ha w hw).pts1 h0 h1 (f := fun x => .int k x) fun _ _ _ h => h
theorem q_leB {xs : List Bool} {A : Option Addr} (ha : RC w0 as kBool A xs) {x : Operand} {t : TypeId} {i : Int} (hx : ev ρ x = some (elemPtr A (i.toNat * 1))) (ht : notAgg P t = true) (h0 : 0 ≤ i) (h1 : i < xs.length) :
    Q1 P n (cls w0 as) ⟨d, .load t x, ty, pos, after, g⟩ ρ (.bool (xs.getD i.toNat false)) :=
  q_ld hx ht fun w hw => (ha w hw).pts1 h0 h1 (f := fun x => .bool x) fun _ _ _ h => h
theorem q_leS {xs : List ByteArray} {A : Option Addr} (ha : RC w0 as kStr A xs) {x : Operand} {t : TypeId} {i : Int} (hx : ev ρ x = some (elemPtr A (i.toNat * 1))) (ht : notAgg P t = true) (h0 : 0 ≤ i) (h1 : i < xs.length) :
    Q1 P n (cls w0 as) ⟨d, .load t x, ty, pos, after, g⟩ ρ (.string (xs.getD i.toNat ByteArray.empty)) :=
  q_ld hx ht fun w hw => (ha w hw).pts1 h0 h1 (f := fun x => .string x) fun _ _ _ h => h
theorem q_binI {op : BinOp} {x y : Operand} {T T' : TypeId} {k k' : IntKind} {a b r : Int} (hx : ev ρ x = some (.int k a)) (hy : ev ρ y = some (.int k b)) (hv : ibin op k a b = some (.int k' r)) :
    Q1 P n C ⟨d, .binOp op T x y T', ty, pos, after, g⟩ ρ (.int k' r) := q_bin hx hy hv
theorem q_fldPI {x : Operand} {t : TypeId} {b o i : Nat} (hx : ev ρ x = some (.pointer (some ⟨b, o, none⟩))) (ht : fldAt P t i i = true) :
    Q1 P n C ⟨d, .fieldAddr t x i, ty, pos, after, g⟩ ρ (.pointer (some ⟨b, o + i, none⟩)) := q_fldP hx ht
theorem q_fldP2 {x : Operand} {t : TypeId} {b o i : Nat} (hx : ev ρ x = some (.pointer (some ⟨b, o, none⟩))) (ht : fldAt P t i (2 * i) = true) :
    Q1 P n C ⟨d, .fieldAddr t x i, ty, pos, after, g⟩ ρ (.pointer (some ⟨b, o + 2 * i, none⟩)) := q_fldP hx ht
/-- a whole element of several cells -/
theorem q_leA {α : Type} {e : Enc α} {xs : List α} {A : Option Addr} (ha : RC w0 as (Kd.of e) A xs) {x : Operand} {t : TypeId} {i : Int} (hx : ev ρ x = some (elemPtr A (i.toNat * e.sz))) (ht : aggSz P t e.sz = true) (h0 : 0 ≤ i) (h1 : i < xs.length) :
    Q1 P n (cls w0 as) ⟨d, .load t x, ty, pos, after, g⟩ ρ (.agg (e.cells (xs.getD i.toNat e.zero)).toArray) :=
  q1_of_run fun a hfit w hw => by
    have hi : i.toNat < xs.length := by omega
    obtain ⟨ad, rfl, cs, hr, hc⟩ := ha w hw i.toNat hi
    obtain ⟨h2, inf, hinf, hsz⟩ := aggSz_spec ht
    simp only [execOp, hfit.eval hx]
    refine run_next_value ?_
    have e1 : xs.getD i.toNat e.zero = xs[i.toNat] := by simp [hi]
    have hcs : cs = e.cells xs[i.toNat] := hr
    have hl := run_loadCells_list (P := P) w (ad.add (i.toNat * e.sz)) (e.cells xs[i.toNat]) (fun j v hj => by
      have := hc j v (by rw [hcs]; exact hj)
      rw [show (ad.add (i.toNat * e.sz)).add j = ad.add (i.toNat * e.sz + j) from by unfold Addr.add; split <;> split <;> simp_all <;> omega]
      exact this)
    rw [e.len] at hl
    rw [e1]
    simp [elemPtr, Instr.loadAt, Instr.sureAddr, loadVar, h2 w, sizeOf, typeInfo, hinf, hsz, hl]
/-- a field of an element -/
theorem q_lef {α : Type} {e : Enc α} {xs : List α} {A : Option Addr} (ha : RC w0 as (Kd.of e) A xs) (j : Nat) {x : Operand} {t : TypeId} {i : Int} {v : Value} (hx : ev ρ x = some (elemPtr A (i.toNat * e.sz + j))) (ht : notAgg P t = true) (h0 : 0 ≤ i) (h1 : i < xs.length)
    (hv : (e.cells (xs.getD i.toNat e.zero))[j]? = some v) : Q1 P n (cls w0 as) ⟨d, .load t x, ty, pos, after, g⟩ ρ v :=
  q_ld hx ht fun w hw => by
    have hi : i.toNat < xs.length := by omega
    obtain ⟨ad, rfl, cs, hr, hc⟩ := ha w hw i.toNat hi
    have e1 : xs.getD i.toNat e.zero = xs[i.toNat] := by simp [hi]
    have hcs : cs = e.cells xs[i.toNat] := hr
    exact ⟨_, rfl, hc j v (by rw [hcs, ← e1]; exact hv)⟩
/-- the address of a field of an element -/
theorem q_ixf {α : Type} {kd : Kd α} {xs : List α} {A : Option Addr} (ha : RC w0 as kd A xs) (off : Nat) {x : Operand} {t : TypeId} {f : Nat} {i : Int} (hx : ev ρ x = some (elemPtr A (i.toNat * kd.sz))) (ht : fldAt P t f off = true) (h0 : 0 ≤ i) (h1 : i < xs.length) :
    Q1 P n (cls w0 as) ⟨d, .fieldAddr t x f, ty, pos, after, g⟩ ρ (elemPtr A (i.toNat * kd.sz + off)) :=
  q_fldE hx ht fun w hw => (ha w hw).some_ h0 h1
/-- a cell of a block of the call's own -/
theorem q_lb {b o : Nat} {cs : List Value} {T : TypeId} {v : Value} (hm : blk b cs T ∈ as) {x : Operand} {t : TypeId} (hx : ev ρ x = some (.pointer (some ⟨b, o, none⟩))) (ht : notAgg P t = true) (hv : cs[o]? = some v) :
    Q1 P n (cls w0 as) ⟨d, .load t x, ty, pos, after, g⟩ ρ v :=
  q_ld hx ht fun w hw => let ⟨F, hF⟩ := hw.get hm; blk_pts hF hv
end
section
variable {P : Program} {f : FuncId} {n : Nat} {R : Ending → World → Prop} {k : List Item} {Φ : Env → (World → Prop) → Prop} {ops l : List Oper} {ρ : Env} {C : World → Prop} {w0 : World} {as : List Asn} {K : Env → Prop}
  {d : Nat} {op : Op} {ty : TypeId} {pos : String} {after : Array Edge} {g : Option (Nat × Bool)} {v : Value}
/-- one quiet operation of a region that draws -/
theorem S (k' : QS P n ops C l ((d, v) :: ρ) K) (hg : want ops ρ g = some true := by rfl) (hd : Nat.blt d n = true := by rfl)
    (h : Q1 P n C ⟨some d, op, ty, pos, after, g⟩ ρ v := by
      first
      | exact q_move rfl
      | exact q_assign rfl
      | exact q_pickT rfl rfl
      | exact q_pickF rfl rfl
      | exact q_addI rfl rfl (by omega)
      | exact q_subI rfl rfl (by omega)
      | exact q_mulI rfl rfl (by omega)
      | exact q_cmpT rfl rfl rfl (by omega)
      | exact q_cmpF rfl rfl rfl (by omega)
      | exact q_neqT rfl rfl (by omega)
      | exact q_neqF rfl rfl (by omega)
      | exact q_quoI rfl rfl (by omega)
      | exact q_remI rfl rfl (by omega)
      | exact q_notT rfl
      | exact q_notF rfl
      | exact q_shl rfl rfl (by omega)
      | exact q_shr rfl rfl (by omega)
      | exact q_binI rfl rfl rfl
      | exact q_not rfl
      | exact q_lenS rfl (by kernel_rfl)
      | exact q_lenStr rfl (by kernel_rfl)
      | exact q_convI rfl (by kernel_rfl) (by decide +kernel) (by omega)
      | exact q_convU rfl (by kernel_rfl) (by decide +kernel) (by omega)
      | exact q_conv8 rfl (by kernel_rfl) (by decide +kernel) (by omega)
      | exact q_conv (k' := .i64) rfl (by kernel_rfl) (by decide +kernel)
      | exact q_conv (k' := .u64) rfl (by kernel_rfl) (by decide +kernel)
      | exact q_conv (k' := .u8) rfl (by kernel_rfl) (by decide +kernel)
      | exact q_extract rfl rfl
      | exact q_fldPI rfl (by decide +kernel)
      | exact q_fldP2 rfl (by decide +kernel)
      | exact q_func rfl rfl
      | exact q_neg rfl) : QS P n ops C (⟨some d, op, ty, pos, after, g⟩ :: l) ρ K := qs_do hg hd h k'
/-- one quiet operation of a region in the text's order -/
theorem L (k' : LS P n Φ ops l ((d, v) :: ρ) (cls w0 as)) (hg : want ops ρ g = some true := by rfl) (hd : Nat.blt d n = true := by rfl)
    (h : Q1 P n (cls w0 as) ⟨some d, op, ty, pos, after, g⟩ ρ v := by
      first
      | exact q_move rfl
      | exact q_assign rfl
      | exact q_pickT rfl rfl
      | exact q_pickF rfl rfl
      | exact q_addI rfl rfl (by omega)
      | exact q_subI rfl rfl (by omega)
      | exact q_mulI rfl rfl (by omega)
      | exact q_cmpT rfl rfl rfl (by omega)
      | exact q_cmpF rfl rfl rfl (by omega)
      | exact q_neqT rfl rfl (by omega)
      | exact q_neqF rfl rfl (by omega)
      | exact q_quoI rfl rfl (by omega)
      | exact q_remI rfl rfl (by omega)
      | exact q_notT rfl
      | exact q_notF rfl
      | exact q_shl rfl rfl (by omega)
      | exact q_shr rfl rfl (by omega)
      | exact q_binI rfl rfl rfl
      | exact q_not rfl
      | exact q_lenS rfl (by kernel_rfl)
      | exact q_lenStr rfl (by kernel_rfl)
      | exact q_convI rfl (by kernel_rfl) (by decide +kernel) (by omega)
      | exact q_convU rfl (by kernel_rfl) (by decide +kernel) (by omega)
      | exact q_conv8 rfl (by kernel_rfl) (by decide +kernel) (by omega)
      | exact q_conv (k' := .i64) rfl (by kernel_rfl) (by decide +kernel)
      | exact q_conv (k' := .u64) rfl (by kernel_rfl) (by decide +kernel)
      | exact q_conv (k' := .u8) rfl (by kernel_rfl) (by decide +kernel)
      | exact q_extract rfl rfl
      | exact q_fldPI rfl (by decide +kernel)
      | exact q_fldP2 rfl (by decide +kernel)
      | exact q_func rfl rfl
      | exact q_neg rfl) : LS P n Φ ops (⟨some d, op, ty, pos, after, g⟩ :: l) ρ (cls w0 as) := ls_do cls.closed hg hd h k'
theorem isL {o : Oper} (h : LS P n Φ ops (o :: l) ρ C) : LS P n Φ ops (o :: l) ρ C := h
theorem isS {o : Oper} (h : QS P n ops C (o :: l) ρ K) : QS P n ops C (o :: l) ρ K := h
theorem isF (F : FuncId) {dd : Option Tmp} {args : Array Operand} {ts : Array TypeId} (h : LS P n Φ ops (⟨dd, .call { callee := .value (.func F), args := args, argTypes := ts }, ty, pos, after, g⟩ :: l) ρ C) :
    LS P n Φ ops (⟨dd, .call { callee := .value (.func F), args := args, argTypes := ts }, ty, pos, after, g⟩ :: l) ρ C := h
theorem isT {t : Tmp} {dd : Option Tmp} {args : Array Operand} {ts : Array TypeId} (h : LS P n Φ ops (⟨dd, .call { callee := .value (.tmp t), args := args, argTypes := ts }, ty, pos, after, g⟩ :: l) ρ C) :
    LS P n Φ ops (⟨dd, .call { callee := .value (.tmp t), args := args, argTypes := ts }, ty, pos, after, g⟩ :: l) ρ C := h
theorem isTS {t : Tmp} {dd : Option Tmp} {args : Array Operand} {ts : Array TypeId} (h : QS P n ops C (⟨dd, .call { callee := .value (.tmp t), args := args, argTypes := ts }, ty, pos, after, g⟩ :: l) ρ K) :
    QS P n ops C (⟨dd, .call { callee := .value (.tmp t), args := args, argTypes := ts }, ty, pos, after, g⟩ :: l) ρ K := h
theorem isFS (F : FuncId) {dd : Option Tmp} {args : Array Operand} {ts : Array TypeId} (h : QS P n ops C (⟨dd, .call { callee := .value (.func F), args := args, argTypes := ts }, ty, pos, after, g⟩ :: l) ρ K) :
    QS P n ops C (⟨dd, .call { callee := .value (.func F), args := args, argTypes := ts }, ty, pos, after, g⟩ :: l) ρ K := h
/-- a call with a plain result -/
theorem Lc {x : Operand} {xs : List Operand} {ts : Array TypeId} {F : FuncId} {first caps : Array Value} {vs args : List Value} (hg : want ops ρ g = some true := by rfl) (hd : Nat.blt d n = true := by rfl) (hx : ev ρ x = some (.func (.func F) first caps) := by rfl) (hv : evs ρ xs = some vs := by rfl)
    (hargs : first.toList ++ vs ++ caps.toList = args := by rfl) (hf : canEnter P F = true := by kernel_rfl)
    (h : ∀ w, cls w0 as w → RetV P F args w v)
    (k' : LS P n Φ ops l ((d, v) :: ρ) (cls w0 as)) :
    LS P n Φ ops (⟨some d, .call { callee := .value x, args := xs.toArray, argTypes := ts }, ty, pos, after, g⟩ :: l) ρ (cls w0 as) := ls_do cls.closed hg hd (q_call hx hv hargs hf h) k'
theorem Sc {x : Operand} {xs : List Operand} {ts : Array TypeId} {F : FuncId} {first caps : Array Value} {vs args : List Value} (hg : want ops ρ g = some true := by rfl) (hd : Nat.blt d n = true := by rfl) (hx : ev ρ x = some (.func (.func F) first caps) := by rfl) (hv : evs ρ xs = some vs := by rfl)
    (hargs : first.toList ++ vs ++ caps.toList = args := by rfl) (hf : canEnter P F = true := by kernel_rfl)
    (h : ∀ w, cls w0 as w → RetV P F args w v)
    (k' : QS P n ops (cls w0 as) l ((d, v) :: ρ) K) :
    QS P n ops (cls w0 as) (⟨some d, .call { callee := .value x, args := xs.toArray, argTypes := ts }, ty, pos, after, g⟩ :: l) ρ K := qs_do hg hd (q_call hx hv hargs hf h) k'
/-- a comparison that parts the way -/
theorem Lif {o : BinOp} {x y : Operand} {T T' : TypeId} {kd : IntKind} {a b : Int} {p : Prop} [Decidable p] (hx : ev ρ x = some (.int kd a)) (hy : ev ρ y = some (.int kd b)) (hv : ibin o kd a b = some (.bool (decide p)))
    (kt : p → LS P n Φ ops l ((d, .bool true) :: ρ) (cls w0 as)) (kf : ¬ p → LS P n Φ ops l ((d, .bool false) :: ρ) (cls w0 as)) (hg : want ops ρ g = some true := by rfl) (hd : Nat.blt d n = true := by rfl) :
    LS P n Φ ops (⟨some d, .binOp o T x y T', ty, pos, after, g⟩ :: l) ρ (cls w0 as) := by
  by_cases h : p
  · exact ls_do cls.closed hg hd (q_cmpT hx hy hv h) (kt h)
  · exact ls_do cls.closed hg hd (q_cmpF hx hy hv h) (kf h)
theorem Lne {x y : Operand} {T T' : TypeId} {kd : IntKind} {a b : Int} (hx : ev ρ x = some (.int kd a)) (hy : ev ρ y = some (.int kd b))
    (kt : ¬ a = b → LS P n Φ ops l ((d, .bool true) :: ρ) (cls w0 as)) (kf : a = b → LS P n Φ ops l ((d, .bool false) :: ρ) (cls w0 as)) (hg : want ops ρ g = some true := by rfl) (hd : Nat.blt d n = true := by rfl) :
    LS P n Φ ops (⟨some d, .binOp .neq T x y T', ty, pos, after, g⟩ :: l) ρ (cls w0 as) := by
  by_cases h : a = b
  · exact ls_do cls.closed hg hd (q_neqF hx hy h) (kf h)
  · exact ls_do cls.closed hg hd (q_neqT hx hy h) (kt h)
theorem Sif {o : BinOp} {x y : Operand} {T T' : TypeId} {kd : IntKind} {a b : Int} {p : Prop} [Decidable p] (hx : ev ρ x = some (.int kd a)) (hy : ev ρ y = some (.int kd b)) (hv : ibin o kd a b = some (.bool (decide p)))
    (kt : p → QS P n ops C l ((d, .bool true) :: ρ) K) (kf : ¬ p → QS P n ops C l ((d, .bool false) :: ρ) K) (hg : want ops ρ g = some true := by rfl) (hd : Nat.blt d n = true := by rfl) :
    QS P n ops C (⟨some d, .binOp o T x y T', ty, pos, after, g⟩ :: l) ρ K := by
  by_cases h : p
  · exact qs_do hg hd (q_cmpT hx hy hv h) (kt h)
  · exact qs_do hg hd (q_cmpF hx hy hv h) (kf h)
theorem Sne {x y : Operand} {T T' : TypeId} {kd : IntKind} {a b : Int} (hx : ev ρ x = some (.int kd a)) (hy : ev ρ y = some (.int kd b))
    (kt : ¬ a = b → QS P n ops C l ((d, .bool true) :: ρ) K) (kf : a = b → QS P n ops C l ((d, .bool false) :: ρ) K) (hg : want ops ρ g = some true := by rfl) (hd : Nat.blt d n = true := by rfl) :
    QS P n ops C (⟨some d, .binOp .neq T x y T', ty, pos, after, g⟩ :: l) ρ K := by
  by_cases h : a = b
  · exact qs_do hg hd (q_neqF hx hy h) (kf h)
  · exact qs_do hg hd (q_neqT hx hy h) (kt h)
/-- a call with a bool that parts the way -/
theorem Lcb {x : Operand} {xs : List Operand} {ts : Array TypeId} {F : FuncId} {first caps : Array Value} {vs args : List Value} {b : Bool} (hg : want ops ρ g = some true := by rfl) (hd : Nat.blt d n = true := by rfl) (hx : ev ρ x = some (.func (.func F) first caps) := by rfl) (hv : evs ρ xs = some vs := by rfl)
    (hargs : first.toList ++ vs ++ caps.toList = args := by rfl) (hf : canEnter P F = true := by kernel_rfl)
    (h : ∀ w, cls w0 as w → RetV P F args w (.bool b))
    (kt : b = true → LS P n Φ ops l ((d, .bool true) :: ρ) (cls w0 as)) (kf : b = false → LS P n Φ ops l ((d, .bool false) :: ρ) (cls w0 as)) :
    LS P n Φ ops (⟨some d, .call { callee := .value x, args := xs.toArray, argTypes := ts }, ty, pos, after, g⟩ :: l) ρ (cls w0 as) := by
  cases b
  · exact ls_do cls.closed hg hd (q_call hx hv hargs hf h) (kf rfl)
  · exact ls_do cls.closed hg hd (q_call hx hv hargs hf h) (kt rfl)
theorem Scb {x : Operand} {xs : List Operand} {ts : Array TypeId} {F : FuncId} {first caps : Array Value} {vs args : List Value} {b : Bool} (hg : want ops ρ g = some true := by rfl) (hd : Nat.blt d n = true := by rfl) (hx : ev ρ x = some (.func (.func F) first caps) := by rfl) (hv : evs ρ xs = some vs := by rfl)
    (hargs : first.toList ++ vs ++ caps.toList = args := by rfl) (hf : canEnter P F = true := by kernel_rfl)
    (h : ∀ w, cls w0 as w → RetV P F args w (.bool b))
    (kt : b = true → QS P n ops (cls w0 as) l ((d, .bool true) :: ρ) K) (kf : b = false → QS P n ops (cls w0 as) l ((d, .bool false) :: ρ) K) :
    QS P n ops (cls w0 as) (⟨some d, .call { callee := .value x, args := xs.toArray, argTypes := ts }, ty, pos, after, g⟩ :: l) ρ K := by
  cases b
  · exact qs_do hg hd (q_call hx hv hargs hf h) (kf rfl)
  · exact qs_do hg hd (q_call hx hv hargs hf h) (kt rfl)
theorem gD {id : Nat} (h : QS P n l (cls w0 as) l ρ fun ρ' => Go P f n R k ρ' (cls w0 as)) (hm : P.follows .mixedOrders = true := by kernel_rfl) (hB : Region.lexB .any l.toArray = true := by kernel_rfl) : Go P f n R (.code (.region id l.toArray true) :: k) ρ (cls w0 as) := g_quiet hm (.inr hB) cls.drew cls.closed h
end
section
variable {P : Program} {f : FuncId} {n : Nat} {R : Ending → World → Prop} {k : List Item} {ρ : Env} {w0 : World} {as : List Asn}
/-- A loop: what changes in the frame (I) and in own memory (M), what holds (J), a measure. -/
theorem g_wh {α : Type} (J : α → Prop) (I : α → Env) (M : α → List Asn) (m : α → Nat) (x0 : α) {c : Code} (hJ : J x0)
    (step : ∀ x, J x → (∀ y, J y → m y < m x → Go P f n R (.inLoop c :: k) (I y) (cls w0 (M y))) → Go P f n R (.code c :: .inLoop c :: k) (I x) (cls w0 (M x)))
    (h0 : EnvSub (I x0) ρ := by repeat (first | exact trivial | refine ⟨rfl, ?_⟩)) (hM : M x0 = as := by rfl) :
    Go P f n R (.code (.loop c) :: k) ρ (cls w0 as) := by
  subst hM
  exact g_ex (D := fun (x : {x // J x ∧ x = x0}) w => cls w0 (M x0) w) (fun w hw => ⟨⟨x0, hJ, rfl⟩, hw⟩) fun _ =>
    g_while (α := {x // J x}) (fun x => I x.1) (fun x => cls w0 (M x.1)) (fun x => m x.1) ⟨x0, hJ⟩ h0 (fun _ h => h) fun x IH => step x.1 x.2 fun y hy hlt => IH ⟨y, hy⟩ hlt
/-- On to a point that is known, the frame weakened. -/
theorem g_go {ρ' : Env} {as' : List Asn} (h : Go P f n R k ρ' (cls w0 as')) (hs : EnvSub ρ' ρ := by repeat (first | exact trivial | refine ⟨rfl, ?_⟩))
    (hm : as'.Sublist as := by first | exact List.Sublist.refl _ | exact List.nil_sublist _ | exact .cons _ (List.Sublist.refl _) | exact .cons _ (.cons _ (List.Sublist.refl _)) | exact .cons _ (.cons _ (.cons _ (List.Sublist.refl _))) | exact .cons_cons _ (.cons _ (List.Sublist.refl _)) | exact .cons_cons _ (.cons_cons _ (.cons _ (List.Sublist.refl _))) | exact .cons_cons _ (.cons _ (.cons _ (List.Sublist.refl _))) | exact .cons _ (.cons_cons _ (.cons _ (List.Sublist.refl _)))) : Go P f n R k ρ (cls w0 as) :=
  g_to h hs fun _ h => h.sub hm
/-- The end of a call with a plain result. -/
theorem g_rv {f' : FuncId} {fn : Func} {rs : List ResultVar} {v : Value} {vs : List Value} (hf : P.funcs[f']? = some fn) (h : oneOr vs = v) (hr : fn.results = rs.toArray := by rfl) (h5 : rs.length ≤ 4 := by decide) (hv : resV ρ rs = some vs := by rfl) :
    Go P f' n (fun e w' => e = .returned v ∧ Ext w0 w') (.code .ret :: k) ρ (cls w0 as) :=
  g_ret hf hr h5 hv fun w hw => ⟨by rw [h], hw.1⟩
/-- The end of a call: one result, two, three. -/
theorem g_r1 {f' : FuncId} {fn : Func} {t : Tmp} {u v : Value} (hf : P.funcs[f']? = some fn) (h : u = v) (hr : fn.results = #[.tmp t] := by rfl) (hv : lk ρ t = some u := by rfl) :
    Go P f' n (fun e w' => e = .returned v ∧ Ext w0 w') (.code .ret :: k) ρ (cls w0 as) := by
  subst h
  exact g_ret (rs := [.tmp t]) hf hr (by simp) (by simp [resV, hv]; rfl) fun w hw => ⟨rfl, hw.1⟩
theorem g_r2 {f' : FuncId} {fn : Func} {t1 t2 : Tmp} {u1 u2 v : Value} (hf : P.funcs[f']? = some fn) (h : .tuple #[u1, u2] = v) (hr : fn.results = #[.tmp t1, .tmp t2] := by rfl) (h1 : lk ρ t1 = some u1 := by rfl) (h2 : lk ρ t2 = some u2 := by rfl) :
    Go P f' n (fun e w' => e = .returned v ∧ Ext w0 w') (.code .ret :: k) ρ (cls w0 as) := by
  subst h
  exact g_ret (rs := [.tmp t1, .tmp t2]) hf hr (by simp) (by simp [resV, h1, h2]; rfl) fun w hw => ⟨rfl, hw.1⟩
theorem g_r3 {f' : FuncId} {fn : Func} {t1 t2 t3 : Tmp} {u1 u2 u3 v : Value} (hf : P.funcs[f']? = some fn) (h : .tuple #[u1, u2, u3] = v) (hr : fn.results = #[.tmp t1, .tmp t2, .tmp t3] := by rfl) (h1 : lk ρ t1 = some u1 := by rfl) (h2 : lk ρ t2 = some u2 := by rfl) (h3 : lk ρ t3 = some u3 := by rfl) :
    Go P f' n (fun e w' => e = .returned v ∧ Ext w0 w') (.code .ret :: k) ρ (cls w0 as) := by
  subst h
  exact g_ret (rs := [.tmp t1, .tmp t2, .tmp t3]) hf hr (by simp) (by simp [resV, h1, h2, h3]; rfl) fun w hw => ⟨rfl, hw.1⟩
/-- .. with what it has made: what is handed back stands first among the call's own. -/
theorem SL.front {B : Nat} {w : World} : ∀ {new as : List Asn} {F : Nat → Prop}, SL B w (new ++ as) F → ∃ G, SL B w new G
  | [], _, _, _ => ⟨fun _ => False, fun _ h => h⟩
  | A :: new, as, F, h => by
    obtain ⟨F1, F2, a1, a2, a3, a4, a5⟩ := h
    obtain ⟨G, hG⟩ := SL.front a2
    have hs : ∀ {new as : List Asn} {F G : Nat → Prop}, SL B w (new ++ as) F → SL B w new G → ∀ b, G b → F b → G b := fun _ _ _ h _ => h
    have key : ∀ (new as : List Asn) (F : Nat → Prop), SL B w (new ++ as) F → ∃ G, SL B w new G ∧ ∀ b, G b → F b := by
      intro new
      induction new with
      | nil => intro as F _; exact ⟨fun _ => False, fun _ h => h, fun _ h => h.elim⟩
      | cons X new ih =>
        intro as F h
        obtain ⟨E1, E2, b1, b2, b3, b4, b5⟩ := h
        obtain ⟨G, g1, g2⟩ := ih as E2 b2
        exact ⟨fun b => E1 b ∨ G b, ⟨E1, G, b1, g1, fun b hb => b3 b ⟨hb.1, g2 b hb.2⟩, fun _ => Iff.rfl, b5⟩, fun b hb => (b4 b).2 (hb.imp id (g2 b))⟩
    obtain ⟨G, g1, g2⟩ := key new as F2 a2
    exact ⟨fun b => F1 b ∨ G b, F1, G, a1, g1, fun b hb => a3 b ⟨hb.1, g2 b hb.2⟩, fun _ => Iff.rfl, a5⟩
theorem g_m1 {f' : FuncId} {fn : Func} {t : Tmp} {u : Value} {new rest : List Asn} {S : Value → List Asn → Prop} (hf : P.funcs[f']? = some fn) (h : S u new) (hp : as.Perm (new ++ rest) := by exact List.Perm.refl _) (hr : fn.results = #[.tmp t] := by rfl) (hv : lk ρ t = some u := by rfl) :
    Go P f' n (fun e w' => ∃ v new G, e = .returned v ∧ S v new ∧ Ext w0 w' ∧ SL w0.heap.size w' new G) (.code .ret :: k) ρ (cls w0 as) := by
  refine g_ret (rs := [.tmp t]) (vs := [u]) hf hr (by simp) (by simp [resV, hv]) fun w hw => ?_
  obtain ⟨F, hF⟩ := (hw.perm hp).2
  obtain ⟨G, hG⟩ := hF.front
  exact ⟨_, new, G, rfl, h, hw.1, hG⟩
theorem g_m2 {f' : FuncId} {fn : Func} {t1 t2 : Tmp} {u1 u2 : Value} {new rest : List Asn} {S : Value → List Asn → Prop} (hf : P.funcs[f']? = some fn) (h : S (.tuple #[u1, u2]) new) (hp : as.Perm (new ++ rest) := by exact List.Perm.refl _) (hr : fn.results = #[.tmp t1, .tmp t2] := by rfl) (h1 : lk ρ t1 = some u1 := by rfl) (h2 : lk ρ t2 = some u2 := by rfl) :
    Go P f' n (fun e w' => ∃ v new G, e = .returned v ∧ S v new ∧ Ext w0 w' ∧ SL w0.heap.size w' new G) (.code .ret :: k) ρ (cls w0 as) := by
  refine g_ret (rs := [.tmp t1, .tmp t2]) (vs := [u1, u2]) hf hr (by simp) (by simp [resV, h1, h2]) fun w hw => ?_
  obtain ⟨F, hF⟩ := (hw.perm hp).2
  obtain ⟨G, hG⟩ := hF.front
  exact ⟨_, new, G, rfl, h, hw.1, hG⟩
end
end Go.G
