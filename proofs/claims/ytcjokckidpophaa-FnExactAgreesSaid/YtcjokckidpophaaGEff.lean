import Derived.Test.YtcjokckidpophaaGMem
import Derived.Laws.AppendOwn
set_option linter.all false
namespace Go.G
open Go.RowKit
/-! ### Calls -/
def canEnter (P : Program) (f : FuncId) : Bool := match P.funcs[f]? with
  | some fn => fn.name != "runtime.NumGoroutine" && fn.body.isSome
  | none => false
theorem canEnter_run {P : Program} {f : FuncId} (h : canEnter P f = true) (args : Array Value) (w : World) : (callFunc f args).run P w = .ok (.enter f args) w := by
  unfold canEnter at h
  split at h
  · rename_i fn hf
    rw [Bool.and_eq_true] at h
    obtain ⟨h1, h2⟩ := h
    have h3 : ¬ fn.body = none := by cases hb : fn.body <;> simp_all
    have h1' : ¬ fn.name = "runtime.NumGoroutine" := by simpa [bne] using h1
    simp [callFunc, hf, h1', h3]
  · cases h
/-- The result v, and nothing that was there has turned. -/
def RetV (P : Program) (f : FuncId) (args : List Value) (w : World) (v : Value) : Prop := Calls P f args.toArray w fun e w' => e = .returned v ∧ Ext w w'
/-- A result that S admits, with what it has made; nothing that was there has turned. -/
def Ret (P : Program) (f : FuncId) (args : List Value) (w : World) (S : Value → List Asn → Prop) : Prop :=
  Calls P f args.toArray w fun e w' => ∃ v new G, e = .returned v ∧ S v new ∧ Ext w w' ∧ SL w.heap.size w' new G
theorem call_run {P : Program} {n : Nat} {ρ : Env} {a : Act} {d : Option Tmp} {ty : TypeId} {pos : String} {after : Array Edge} {g : Option (Nat × Bool)} {x : Operand} {xs : List Operand} {ts : Array TypeId} {f : FuncId} {first caps : Array Value} {vs : List Value}
    (ha : Fits n a ρ) (hx : ev ρ x = some (.func (.func f) first caps)) (hv : evs ρ xs = some vs) (hf : canEnter P f = true) (w : World) :
    (execOp a.eval ⟨d, .call { callee := .value x, args := xs.toArray, argTypes := ts }, ty, pos, after, g⟩).run P w = .ok (.enter f (first.toList ++ vs ++ caps.toList).toArray) w := by
  have := canEnter_run (P := P) hf (first ++ vs.toArray ++ caps) w
  have e : (first.toList ++ vs ++ caps.toList).toArray = first ++ vs.toArray ++ caps := by simp
  rw [e, ← this]
  simp [execOp, resolve, Deferred.ofValue, invoke, ha.eval hx, ha.evals hv]
section
variable {P : Program} {n : Nat} {ρ : Env} {d : Option Tmp} {ty : TypeId} {pos : String} {after : Array Edge} {g : Option (Nat × Bool)} {w0 : World} {as : List Asn}
theorem q_call {x : Operand} {xs : List Operand} {ts : Array TypeId} {f : FuncId} {first caps : Array Value} {vs args : List Value} {v : Value} (hx : ev ρ x = some (.func (.func f) first caps)) (hv : evs ρ xs = some vs)
    (hargs : first.toList ++ vs ++ caps.toList = args) (hf : canEnter P f = true) (h : ∀ w, cls w0 as w → RetV P f args w v) :
    Q1 P n (cls w0 as) ⟨d, .call { callee := .value x, args := xs.toArray, argTypes := ts }, ty, pos, after, g⟩ ρ v := by
  refine ⟨fun a ha w hw => ?_⟩
  unfold Oper.quietAt
  rw [call_run ha hx hv hf w, hargs]
  exact ⟨rfl, h w hw⟩
end
/-! ### Regions in the text's order: effects -/
def LPost (n : Nat) (Φ : Env → (World → Prop) → Prop) (e : Exit) (a' : Act) (w' : World) : Prop :=
  e = Exit.normal ∧ ∃ (ρ' : Env) (C' : World → Prop), C' w' ∧ Fits n a' ρ' ∧ Φ ρ' C'
structure LS (P : Program) (n : Nat) (Φ : Env → (World → Prop) → Prop) (ops : List Oper) (l : List Oper) (ρ : Env) (C : World → Prop) : Prop where
  out : ∀ a w, Fits n a ρ → C w → wpList P ops.toArray (LPost n Φ) l a w
section
variable {P : Program} {f : FuncId} {n : Nat} {R : Ending → World → Prop} {k : List Item} {Φ : Env → (World → Prop) → Prop} {ops l : List Oper} {ρ : Env} {C : World → Prop}
theorem g_list {id : Nat} (h : LS P n (Go P f n R k) ops ops ρ C) : Go P f n R (.code (.region id ops.toArray false) :: k) ρ C := by
  refine ⟨fun a w ha hw cs => ?_⟩
  have hwp : (Code.region id ops.toArray false).wp P (LPost n (Go P f n R k)) a w := wp_region_list (h.out a w ha hw)
  obtain ⟨e, a', w', ⟨rfl, ρ', C', hC', ha', hk⟩, harr⟩ := hwp (base f) k cs
  exact of_steps harr (hk.out a' w' ha' hC' cs)
theorem ls_nil (h : Φ ρ C) : LS P n Φ ops [] ρ C := ⟨fun a w ha hw => ⟨rfl, ρ, C, hw, ha, h⟩⟩
theorem ls_to {ρ' : Env} {C' : World → Prop} (h : LS P n Φ ops l ρ' C') (hs : EnvSub ρ' ρ) (hC : ∀ w, C w → C' w) : LS P n Φ ops l ρ C := ⟨fun a w ha hw => h.out a w (ha.sub hs) (hC w hw)⟩
theorem ls_ex {α : Type} {D : α → World → Prop} (hC : ∀ w, C w → ∃ x, D x w) (h : ∀ x, LS P n Φ ops l ρ (D x)) : LS P n Φ ops l ρ C :=
  ⟨fun a w ha hw => let ⟨x, hx⟩ := hC w hw; (h x).out a w ha hx⟩
theorem ls_pure {p : Prop} (hC : ∀ w, C w → p) (h : p → LS P n Φ ops l ρ C) : LS P n Φ ops l ρ C := ⟨fun a w ha hw => (h (hC w hw)).out a w ha hw⟩
section
variable {d : Nat} {op : Op} {ty : TypeId} {pos : String} {after : Array Edge} {g : Option (Nat × Bool)}
theorem ls_do {v : Value} (hC : Closed C) (hg : want ops ρ g = some true) (hd : Nat.blt d n = true) (h : Q1 P n C ⟨some d, op, ty, pos, after, g⟩ ρ v)
    (k' : LS P n Φ ops l ((d, v) :: ρ) C) : LS P n Φ ops (⟨some d, op, ty, pos, after, g⟩ :: l) ρ C := by
  refine ⟨fun a w ha hw => ?_⟩
  unfold wpList
  rw [if_pos (want_spec ha hg)]
  exact .inl (Oper.wp_of_quiet (C := C) (K := fun a' => Fits n a' ((d, v) :: ρ)) hw (fun a' w' hw' ha' => k'.out a' w' ha' hw') ⟨v, fun w hw => h.at_ hC ha w hw, ha.put hd v⟩)
theorem ls_skip (hg : want ops ρ g = some false) (hd : Nat.blt d n = true) (k' : LS P n Φ ops l ((d, undef) :: ρ) C) : LS P n Φ ops (⟨some d, op, ty, pos, after, g⟩ :: l) ρ C := by
  refine ⟨fun a w ha hw => ?_⟩
  unfold wpList
  rw [if_neg (by rw [want_spec ha hg]; exact Bool.false_ne_true)]
  exact k'.out _ w (ha.put hd undef) hw
/-- An operation that makes or turns memory. -/
theorem ls_eff {D : Value → World → Prop} (hg : want ops ρ g = some true) (hd : Nat.blt d n = true)
    (h : ∀ a w, Fits n a ρ → C w → ∃ v w', (execOp a.eval ⟨some d, op, ty, pos, after, g⟩).run P w = .ok (.value v) w' ∧ D v w') (k' : ∀ v, LS P n Φ ops l ((d, v) :: ρ) (D v)) :
    LS P n Φ ops (⟨some d, op, ty, pos, after, g⟩ :: l) ρ C := by
  refine ⟨fun a w ha hw => ?_⟩
  unfold wpList
  rw [if_pos (want_spec ha hg)]
  obtain ⟨v, w', hr, hD⟩ := h a w ha hw
  refine .inl ?_
  unfold Oper.wp
  rw [hr]
  exact (k' v).out _ w' (ha.put hd v) hD
/-- One without a value: a store. -/
theorem ls_eff0 {D : World → Prop} (hg : want ops ρ g = some true)
    (h : ∀ a w, Fits n a ρ → C w → ∃ w', (execOp a.eval ⟨none, op, ty, pos, after, g⟩).run P w = .ok .skip w' ∧ D w') (k' : LS P n Φ ops l ρ D) :
    LS P n Φ ops (⟨none, op, ty, pos, after, g⟩ :: l) ρ C := by
  refine ⟨fun a w ha hw => ?_⟩
  unfold wpList
  rw [if_pos (want_spec ha hg)]
  obtain ⟨w', hr, hD⟩ := h a w ha hw
  refine .inl ?_
  unfold Oper.wp
  rw [hr]
  exact k'.out _ w' ha hD
end
section
variable {d : Nat} {ty : TypeId} {pos : String} {after : Array Edge} {g : Option (Nat × Bool)} {w0 : World} {as : List Asn}
/-- A call that makes its result. -/
theorem ls_call {x : Operand} {xs : List Operand} {ts : Array TypeId} {F : FuncId} {first caps : Array Value} {vs args : List Value} {S : Value → List Asn → Prop} (hg : want ops ρ g = some true) (hd : Nat.blt d n = true)
    (hx : ev ρ x = some (.func (.func F) first caps)) (hv : evs ρ xs = some vs) (hargs : first.toList ++ vs ++ caps.toList = args) (hf : canEnter P F = true) (h : ∀ w, cls w0 as w → Ret P F args w S)
    (k' : ∀ v new, S v new → LS P n Φ ops l ((d, v) :: ρ) (cls w0 (new ++ as))) :
    LS P n Φ ops (⟨some d, .call { callee := .value x, args := xs.toArray, argTypes := ts }, ty, pos, after, g⟩ :: l) ρ (cls w0 as) := by
  refine ⟨fun a w ha hw => ?_⟩
  unfold wpList
  rw [if_pos (want_spec ha hg)]
  refine .inl ?_
  unfold Oper.wp
  rw [call_run ha hx hv hf w, hargs]
  refine (h w hw).mono fun e w' hh => ?_
  obtain ⟨v, new, G, rfl, hS, he, hsl⟩ := hh
  exact (k' v new hS).out _ w' (ha.put hd v) (hw.add he hsl)
def cellsL : Value → List Value
  | .agg cs => cs.toList
  | v => [v]
theorem cells_cellsL (v : Value) : v.cells = (cellsL v).toArray := by cases v <;> simp [Value.cells, cellsL]
theorem SL.one {B : Nat} {w : World} {A : Asn} {F : Nat → Prop} (h : A.holds w F) (hb : ∀ b, F b → B ≤ b ∧ b < w.heap.size) : SL B w [A] F :=
  ⟨F, fun _ => False, h, fun _ h => h, fun _ h => h.2, fun b => by simp, hb⟩
theorem blk_new (w : World) (cs : List Value) (T : TypeId) : SL w.heap.size (w.alloc (.cells cs.toArray T)) [blk w.heap.size cs T] (fun k => k = w.heap.size) :=
  SL.one ⟨fun _ => Iff.rfl, heap_alloc_new w _⟩ fun b hb => by subst hb; exact ⟨Nat.le_refl _, by simp⟩
theorem ls_box {x : Operand} {T : TypeId} {v : Value} (hg : want ops ρ g = some true) (hd : Nat.blt d n = true) (hx : ev ρ x = some v)
    (k' : ∀ b, LS P n Φ ops l ((d, .pointer (some ⟨b, 0, none⟩)) :: ρ) (cls w0 (blk b (cellsL v) T :: as))) :
    LS P n Φ ops (⟨some d, .box T x, ty, pos, after, g⟩ :: l) ρ (cls w0 as) := by
  refine ⟨fun a w ha hw => ?_⟩
  unfold wpList
  rw [if_pos (want_spec ha hg)]
  refine .inl ?_
  unfold Oper.wp
  have hr : (execOp a.eval ⟨some d, .box T x, ty, pos, after, g⟩).run P w = .ok (.value (.pointer (some ⟨w.heap.size, 0, none⟩))) (w.alloc (.cells (cellsL v).toArray T)) := by
    simp only [execOp, ha.eval hx]
    refine run_next_value ?_
    simp [Instr.box, newVar, newRow, cells_cellsL]
  rw [hr]
  exact (k' w.heap.size).out _ _ (ha.put hd _) (hw.add (Chg.alloc w _) (blk_new w _ T))
end
end
/-! ### Begin -/
def argEnv : Nat → List Value → Env
  | _, [] => []
  | k, v :: vs => (k, v) :: argEnv (k + 1) vs
theorem argEnv_lk : ∀ (vs : List Value) (k t : Nat) (v : Value), lk (argEnv k vs) t = some v → k ≤ t ∧ vs[t - k]? = some v
  | [], _, _, _, h => by cases h
  | u :: vs, k, t, v, h => by
    simp only [argEnv, lk] at h
    cases hb : Nat.beq k t
    · rw [hb] at h
      obtain ⟨h1, h2⟩ := argEnv_lk vs (k + 1) t v h
      refine ⟨by omega, ?_⟩
      rw [show t - k = (t - (k + 1)) + 1 from by omega]
      exact h2
    · rw [hb] at h
      obtain rfl := Nat.eq_of_beq_eq_true hb
      simp only [cond_true, Option.some.injEq] at h
      subst h
      simp
theorem enter {P : Program} {f : FuncId} {fn : Func} {c : Code} {n : Nat} {args : List Value} {w : World} {R : Ending → World → Prop} (hf : P.funcs[f]? = some fn) (hb : fn.body = some c) (hn : fn.ntmps = n) (hl : Nat.ble args.length n = true)
    (h : Go P f n R [.code c] (argEnv 0 args) (cls w [])) : Calls P f args.toArray w R :=
  calls_of_go hf hb hn (Nat.le_of_ble_eq_true hl) (fun t v hl => by simpa using (argEnv_lk args 0 t v hl).2) (cls.start w) h
end Go.G
