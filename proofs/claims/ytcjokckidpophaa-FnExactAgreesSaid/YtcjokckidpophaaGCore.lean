import Derived.Calls
import Derived.Tactics
import Derived.Deep.Quiet
import Derived.Below
import Derived.KernelRfl
set_option linter.all false
namespace Go.G
open Go.RowKit

/-! ### Worlds that are as they were but for some blocks -/
/-- Only blocks of F may have turned; new ones may have come. -/
structure Chg (F : Nat → Prop) (w w' : World) : Prop where
  os : w'.os = w.os
  tape : w'.tape = w.tape
  output : w'.output = w.output
  size : w.heap.size ≤ w'.heap.size
  block : ∀ k, k < w.heap.size → ¬ F k → w'.heap[k]? = w.heap[k]?
abbrev Nof : Nat → Prop := fun _ => False
abbrev Ext (w w' : World) : Prop := Chg Nof w w'
theorem Chg.refl (F : Nat → Prop) (w : World) : Chg F w w := ⟨rfl, rfl, rfl, Nat.le_refl _, fun _ _ _ => rfl⟩
theorem Chg.mono {F G : Nat → Prop} {w w' : World} (h : Chg F w w') (hs : ∀ k, k < w.heap.size → F k → G k) : Chg G w w' := ⟨h.os, h.tape, h.output, h.size, fun k hk hn => h.block k hk fun hf => hn (hs k hk hf)⟩
theorem Chg.trans {F G : Nat → Prop} {a b c : World} (h : Chg F a b) (k : Chg G b c) : Chg (fun x => F x ∨ G x) a c :=
  ⟨k.os.trans h.os, k.tape.trans h.tape, k.output.trans h.output, Nat.le_trans h.size k.size, fun i hi hn => (k.block i (Nat.lt_of_lt_of_le hi h.size) fun hg => hn (.inr hg)).trans (h.block i hi fun hf => hn (.inl hf))⟩
theorem Ext.trans {a b c : World} (h : Ext a b) (k : Ext b c) : Ext a c := (Chg.trans h k).mono fun _ _ h => h.elim id id
theorem Chg.drew {F : Nat → Prop} {w w' : World} (h : Chg F w w') : Chg F w w'.drew := ⟨h.os, h.tape, h.output, h.size, h.block⟩
theorem Chg.below {F : Nat → Prop} {w w' : World} {B : Nat} (h : Chg F w w') (hB : ∀ k, F k → B ≤ k) (hb : B ≤ w.heap.size) : Below B w w' :=
  ⟨h.os, h.tape, h.output, h.size, fun k hk => h.block k (by omega) fun hf => by have := hB k hf; omega⟩
theorem Ext.of_below {w w' : World} (h : Below w.heap.size w w') : Ext w w' := ⟨h.os, h.tape, h.output, h.size, fun k hk _ => h.block k hk⟩
theorem Ext.below {w w' : World} (h : Ext w w') : Below w.heap.size w w' := ⟨h.os, h.tape, h.output, h.size, fun k hk => h.block k hk id⟩
theorem Chg.of_grown {w w' : World} {row : Option Nat} (h : w.grownBy w' row) : Chg (fun k => some k = row) w w' := ⟨h.os, h.tape, h.output, h.size, h.block⟩
/-! ### Environments: what is known of a frame's slots -/
abbrev Env := List (Nat × Value)
def lk : Env → Nat → Option Value
  | [], _ => none
  | (k, v) :: r, t => bif Nat.beq k t then some v else lk r t
def ev (ρ : Env) : Operand → Option Value
  | .tmp t => lk ρ t
  | .const v => some v
  | .global g => some (.pointer (some ⟨g, 0, none⟩))
  | .func f => some (.func (.func f) #[] #[])
def evs (ρ : Env) : List Operand → Option (List Value)
  | [] => some []
  | x :: r => match ev ρ x, evs ρ r with
    | some v, some vs => some (v :: vs)
    | _, _ => none
structure Fits (n : Nat) (a : Act) (ρ : Env) : Prop where
  size : a.tmps.size = n
  defers : a.defers = []
  at_ : ∀ t v, lk ρ t = some v → a.tmps[t]? = some v
theorem Fits.getD {n : Nat} {a : Act} {ρ : Env} (h : Fits n a ρ) {t : Nat} {v : Value} (hl : lk ρ t = some v) : a.tmps.getD t undef = v := by
  have := h.at_ t v hl
  rw [Array.getD_eq_getD_getElem?, this]; rfl
theorem Fits.eval {n : Nat} {a : Act} {ρ : Env} (h : Fits n a ρ) {x : Operand} {v : Value} (hx : ev ρ x = some v) : a.eval x = v := by
  cases x with
  | tmp t => exact h.getD hx
  | const u => simp only [ev, Option.some.injEq] at hx; exact hx
  | global g => simp only [ev, Option.some.injEq] at hx; exact hx
  | func f => simp only [ev, Option.some.injEq] at hx; exact hx
theorem Fits.evals {n : Nat} {a : Act} {ρ : Env} (h : Fits n a ρ) : ∀ {xs : List Operand} {vs : List Value}, evs ρ xs = some vs → xs.map a.eval = vs
  | [], _, hx => by simp [evs] at hx; simp [hx]
  | x :: xs, vs, hx => by
    simp only [evs] at hx
    split at hx
    · rename_i v us h1 h2
      simp only [Option.some.injEq] at hx
      subst hx
      simp [h.eval h1, h.evals h2]
    · cases hx
theorem Fits.put {n : Nat} {a : Act} {ρ : Env} (h : Fits n a ρ) {d : Nat} (hd : Nat.blt d n = true) (v : Value) : Fits n (a.put (some d) v) ((d, v) :: ρ) := by
  have hd' : d < n := Nat.le_of_ble_eq_true hd
  refine ⟨by simp [Act.put, h.size], h.defers, ?_⟩
  intro t u hl
  simp only [lk] at hl
  simp only [Act.put, Array.getElem?_setIfInBounds]
  by_cases e : d = t
  · subst e
    have hb : Nat.beq d d = true := Nat.beq_refl d
    rw [hb] at hl
    simp only [cond_true, Option.some.injEq] at hl
    simp [h.size, hd', hl]
  · have hb : Nat.beq d t = false := by
      cases hh : Nat.beq d t
      · rfl
      · exact absurd (Nat.eq_of_beq_eq_true hh) e
    rw [hb] at hl
    simp only [cond_false] at hl
    rw [if_neg e]
    exact h.at_ t u hl
theorem Fits.putNone {n : Nat} {a : Act} {ρ : Env} (h : Fits n a ρ) (v : Value) : Fits n (a.put none v) ρ := h
def EnvSub : Env → Env → Prop
  | [], _ => True
  | (t, v) :: r, ρ => lk ρ t = some v ∧ EnvSub r ρ
theorem EnvSub.at_ {ρ' ρ : Env} (h : EnvSub ρ' ρ) : ∀ t v, lk ρ' t = some v → lk ρ t = some v := by
  induction ρ' with
  | nil => intro t v hl; cases hl
  | cons p r ih =>
    obtain ⟨k, u⟩ := p
    intro t v hl
    simp only [lk] at hl
    cases hb : Nat.beq k t
    · rw [hb] at hl; exact ih h.2 t v hl
    · rw [hb] at hl
      simp only [cond_true, Option.some.injEq] at hl
      obtain rfl := Nat.eq_of_beq_eq_true hb
      rw [← hl]; exact h.1
theorem Fits.sub {n : Nat} {a : Act} {ρ ρ' : Env} (h : Fits n a ρ) (hs : EnvSub ρ' ρ) : Fits n a ρ' :=
  ⟨h.size, h.defers, fun t v hl => h.at_ t v (hs.at_ t v hl)⟩

/-! ### Single operations that leave the world alone, or call what leaves it in its class -/
/-- In every world of the class C the operation 'o' yields v. -/
structure Q1 (P : Program) (n : Nat) (C : World → Prop) (o : Oper) (ρ : Env) (v : Value) : Prop where
  out : ∀ a, Fits n a ρ → ∀ w, C w → o.quietAt P a (Ext w) w v
/-- The class takes in what its worlds grow into. -/
def Closed (C : World → Prop) : Prop := ∀ w w', C w → Ext w w' → C w'
theorem quietAt_mono {P : Program} {o : Oper} {a : Act} {C D : World → Prop} {w : World} {v : Value} (h : ∀ w', C w' → D w') (hh : o.quietAt P a C w v) : o.quietAt P a D w v := by
  unfold Oper.quietAt at *
  generalize (execOp a.eval o).run P w = r at *
  cases r with
  | ok x w' =>
    cases x <;> simp only [Oper.quietUpon] at hh ⊢
    case value => exact hh
    case skip => exact hh
    case enter => exact ⟨hh.1, hh.2.mono fun e w'' ⟨h1, h2⟩ => ⟨h1, h _ h2⟩⟩
  | halt x w' => simp only [Oper.quietUpon] at hh
theorem Q1.at_ {P : Program} {n : Nat} {C : World → Prop} {o : Oper} {ρ : Env} {v : Value} (h : Q1 P n C o ρ v) (hC : Closed C) {a : Act} (ha : Fits n a ρ) (w : World) (hw : C w) : o.quietAt P a C w v :=
  quietAt_mono (fun w' h' => hC w w' hw h') (h.out a ha w hw)
/-- whether a guarded operation runs, known from the frame -/
def want (ops : List Oper) (ρ : Env) : Option (Nat × Bool) → Option Bool
  | none => some true
  | some (j, b) => match ops[j]? with
    | some ⟨some t, _, _, _, _, _⟩ => match lk ρ t with
      | some (.bool c) => some (c == b)
      | some (.tuple _) => some false
      | _ => none
    | _ => none
theorem want_spec {n : Nat} {a : Act} {ρ : Env} (h : Fits n a ρ) {ops : List Oper} {o : Oper} {b : Bool} (hw : want ops ρ o.guard = some b) :
    Region.wanted o (yielded ops.toArray a.tmps) = b := by
  unfold Region.wanted
  cases hg : o.guard with
  | none => rw [hg] at hw; simp [want] at hw; simp [hw]
  | some p =>
    obtain ⟨j, c⟩ := p
    rw [hg] at hw
    simp only [want] at hw
    split at hw
    · rename_i t _ _ _ _ _ hj
      split at hw
      · rename_i d hl
        simp only [Option.some.injEq] at hw
        have := h.at_ _ _ hl
        simp [yielded, hj, this, hw]
      · rename_i _ hl
        simp only [Option.some.injEq] at hw
        have := h.at_ _ _ hl
        simp [yielded, hj, this, ← hw]
      · cases hw
    · cases hw

def wpQx (P : Program) (ops : Array Oper) (C : World → Prop) (Q : Act → Prop) : List Oper → Act → Prop
  | [], a => Q a
  | o :: rest, a => if Region.wanted o (yielded ops a.tmps) then ∃ v, (∀ w, C w → o.quietAt P a (Ext w) w v) ∧ wpQx P ops C Q rest (a.put o.dst v) else wpQx P ops C Q rest (a.put o.dst undef)
theorem wpQx_quiet {P : Program} {ops : Array Oper} {C : World → Prop} (hC : Closed C) {Q : Act → Prop} : ∀ (l : List Oper) (a : Act), wpQx P ops C Q l a → wpQuiet P ops C Q l a
  | [], a, h => h
  | o :: rest, a, h => by
    unfold wpQx at h
    unfold wpQuiet
    split
    · rename_i hw
      rw [if_pos hw] at h
      obtain ⟨v, h1, h2⟩ := h
      exact ⟨v, fun w hw => quietAt_mono (fun w' h' => hC w w' hw h') (h1 w hw), wpQx_quiet hC rest _ h2⟩
    · rename_i hw
      rw [if_neg hw] at h
      exact wpQx_quiet hC rest _ h
/-- Lists of quiet operations. -/
structure QS (P : Program) (n : Nat) (ops : List Oper) (C : World → Prop) (l : List Oper) (ρ : Env) (K : Env → Prop) : Prop where
  out : ∀ a, Fits n a ρ → wpQx P ops.toArray C (fun a' => ∃ ρ', Fits n a' ρ' ∧ K ρ') l a
section
variable {P : Program} {n : Nat} {ops : List Oper} {C : World → Prop} {l : List Oper} {ρ : Env} {K : Env → Prop}
theorem qs_nil (h : K ρ) : QS P n ops C [] ρ K := ⟨fun _ ha => ⟨ρ, ha, h⟩⟩
theorem qs_do {d : Nat} {op : Op} {ty : TypeId} {pos : String} {after : Array Edge} {g : Option (Nat × Bool)} {v : Value}
    (hg : want ops ρ g = some true) (hd : Nat.blt d n = true) (h : Q1 P n C ⟨some d, op, ty, pos, after, g⟩ ρ v)
    (k : QS P n ops C l ((d, v) :: ρ) K) : QS P n ops C (⟨some d, op, ty, pos, after, g⟩ :: l) ρ K := by
  refine ⟨fun a ha => ?_⟩
  unfold wpQx
  rw [if_pos (want_spec ha hg)]
  exact ⟨v, h.out a ha, k.out _ (ha.put hd v)⟩
theorem qs_skip {d : Nat} {op : Op} {ty : TypeId} {pos : String} {after : Array Edge} {g : Option (Nat × Bool)}
    (hg : want ops ρ g = some false) (hd : Nat.blt d n = true)
    (k : QS P n ops C l ((d, undef) :: ρ) K) : QS P n ops C (⟨some d, op, ty, pos, after, g⟩ :: l) ρ K := by
  refine ⟨fun a ha => ?_⟩
  unfold wpQx
  rw [if_neg (by rw [want_spec ha hg]; exact Bool.false_ne_true)]
  exact k.out _ (ha.put hd undef)
end

theorem quiet_post {P : Program} {ops : Array Oper} {C : World → Prop} {Q Q' : Act → Prop} (h : ∀ a, Q a → Q' a) : ∀ (l : List Oper) (a : Act), wpQuiet P ops C Q l a → wpQuiet P ops C Q' l a
  | [], a, hh => h a hh
  | o :: l, a, hh => by
    unfold wpQuiet at hh ⊢
    split
    · rename_i hw
      rw [if_pos hw] at hh
      exact Oper.quiet_mono (fun a h' => quiet_post h l a h') hh
    · rename_i hw
      rw [if_neg hw] at hh
      exact quiet_post h l _ hh
theorem list_of_quiet {P : Program} {ops : Array Oper} {C : World → Prop} {Q : Act → Prop} {Q' : Exit → Act → World → Prop} (h : ∀ a w, C w → Q a → Q' .normal a w) :
    ∀ (l : List Oper) (a : Act) (w : World), C w → wpQuiet P ops C Q l a → wpList P ops Q' l a w
  | [], a, w, hw, hh => h a w hw hh
  | o :: l, a, w, hw, hh => by
    unfold wpQuiet at hh
    unfold wpList
    split
    · rename_i hwa
      rw [if_pos hwa] at hh
      exact .inl (Oper.wp_of_quiet hw (fun a' w' hw' h' => list_of_quiet h l a' w' hw' h') hh)
    · rename_i hwa
      rw [if_neg hwa] at hh
      exact list_of_quiet h l _ w hw hh

/-! ### The machine's list of things to do -/
def base (f : FuncId) : Frame := { (default : Frame) with fn := f, kind := .normal }
/-- From here the call of f comes to an end that R admits. -/
structure Go (P : Program) (f : FuncId) (n : Nat) (R : Ending → World → Prop) (k : List Item) (ρ : Env) (C : World → Prop) : Prop where
  out : ∀ a w, Fits n a ρ → C w → ∀ cs, ∃ e w' fr, R e w' ∧ Comes P (lone ((base f).at a k) cs w) (lone fr cs w') e ∧ fr.fn = f ∧ fr.leaving P w' e
section
variable {P : Program} {f : FuncId} {n : Nat} {R : Ending → World → Prop} {k : List Item} {ρ ρ' : Env} {C C' : World → Prop}
theorem of_steps {a a' : Act} {w w' : World} {k k' : List Item} {cs : List Frame} (hs : Steps P (lone ((base f).at a k) cs w) (lone ((base f).at a' k') cs w'))
    (h : ∃ e w'' fr, R e w'' ∧ Comes P (lone ((base f).at a' k') cs w') (lone fr cs w'') e ∧ fr.fn = f ∧ fr.leaving P w'' e) :
    ∃ e w'' fr, R e w'' ∧ Comes P (lone ((base f).at a k) cs w) (lone fr cs w'') e ∧ fr.fn = f ∧ fr.leaving P w'' e :=
  let ⟨e, w'', fr, h1, h2, h3⟩ := h
  ⟨e, w'', fr, h1, Comes.of_steps hs h2, h3⟩
theorem g_to (h : Go P f n R k ρ' C') (hs : EnvSub ρ' ρ) (hC : ∀ w, C w → C' w) : Go P f n R k ρ C :=
  ⟨fun a w ha hw cs => h.out a w (ha.sub hs) (hC w hw) cs⟩
theorem g_ex {α : Type} {D : α → World → Prop} (hC : ∀ w, C w → ∃ x, D x w) (h : ∀ x, Go P f n R k ρ (D x)) : Go P f n R k ρ C :=
  ⟨fun a w ha hw cs => let ⟨x, hx⟩ := hC w hw; (h x).out a w ha hx cs⟩
theorem g_false (h : ∀ w, C w → False) : Go P f n R k ρ C := ⟨fun _ w _ hw => (h w hw).elim⟩
theorem g_pure {p : Prop} (hC : ∀ w, C w → p) (h : p → Go P f n R k ρ C) : Go P f n R k ρ C :=
  ⟨fun a w ha hw cs => (h (hC w hw)).out a w ha hw cs⟩
theorem g_seq {x y : Code} (h : Go P f n R (.code x :: .code y :: k) ρ C) : Go P f n R (.code (.seq x y) :: k) ρ C :=
  ⟨fun a w ha hw cs => of_steps (.one step_seq) (h.out a w ha hw cs)⟩
theorem g_skip (h : Go P f n R k ρ C) : Go P f n R (.code .skip :: k) ρ C :=
  ⟨fun a w ha hw cs => of_steps (.one step_skip) (h.out a w ha hw cs)⟩
theorem g_label {l : Nat} (h : Go P f n R k ρ C) : Go P f n R (.code (.label l) :: k) ρ C :=
  ⟨fun a w ha hw cs => of_steps (.one step_label) (h.out a w ha hw cs)⟩
theorem g_block {id : Nat} {c : Code} (h : Go P f n R (.code c :: .inBlock id :: k) ρ C) : Go P f n R (.code (.block id c) :: k) ρ C :=
  ⟨fun a w ha hw cs => of_steps (.one step_block) (h.out a w ha hw cs)⟩
theorem g_inBlock {id : Nat} (h : Go P f n R k ρ C) : Go P f n R (.inBlock id :: k) ρ C :=
  ⟨fun a w ha hw cs => of_steps (.one step_inBlock) (h.out a w ha hw cs)⟩
theorem g_loop {c : Code} (h : Go P f n R (.code c :: .inLoop c :: k) ρ C) : Go P f n R (.code (.loop c) :: k) ρ C :=
  ⟨fun a w ha hw cs => of_steps (.one step_loop) (h.out a w ha hw cs)⟩
theorem g_inLoop {c : Code} (h : Go P f n R (.code c :: .inLoop c :: k) ρ C) : Go P f n R (.inLoop c :: k) ρ C :=
  ⟨fun a w ha hw cs => of_steps (.one step_inLoop) (h.out a w ha hw cs)⟩
theorem g_exit {id : Nat} {k' : List Item} (hk : exitTo id k = some k') (h : Go P f n R k' ρ C) : Go P f n R (.code (.exit id) :: k) ρ C :=
  ⟨fun a w ha hw cs => of_steps (.one (step_exit hk)) (h.out a w ha hw cs)⟩
theorem g_goto {l : Nat} {k' : List Item} (hk : gotoIn l k = some k') (h : Go P f n R k' ρ C) : Go P f n R (.code (.goto l) :: k) ρ C :=
  ⟨fun a w ha hw cs => of_steps (.one (step_goto hk)) (h.out a w ha hw cs)⟩
theorem g_if {c : Operand} {x y : Code} {b : Bool} (hc : ev ρ c = some (.bool b)) (ht : b = true → Go P f n R (.code x :: k) ρ C) (hf : b = false → Go P f n R (.code y :: k) ρ C) :
    Go P f n R (.code (.cond c x y) :: k) ρ C := by
  refine ⟨fun a w ha hw cs => ?_⟩
  refine of_steps (.one (step_cond (ha.eval hc))) ?_
  cases b
  · exact (hf rfl).out a w ha hw cs
  · exact (ht rfl).out a w ha hw cs
theorem g_then {c : Operand} {x y : Code} (hc : ev ρ c = some (.bool true)) (h : Go P f n R (.code x :: k) ρ C) : Go P f n R (.code (.cond c x y) :: k) ρ C :=
  g_if hc (fun _ => h) (fun h => by cases h)
theorem g_else {c : Operand} {x y : Code} (hc : ev ρ c = some (.bool false)) (h : Go P f n R (.code y :: k) ρ C) : Go P f n R (.code (.cond c x y) :: k) ρ C :=
  g_if hc (fun h => by cases h) (fun _ => h)
/-- The values of the result variables. -/
def resV (ρ : Env) : List ResultVar → Option (List Value)
  | [] => some []
  | .tmp t :: r => match lk ρ t, resV ρ r with
    | some v, some vs => some (v :: vs)
    | _, _ => none
  | _ => none
def oneOr (vs : List Value) : Value := match vs with | [v] => v | vs => .tuple vs.toArray
theorem results_resV {a : Act} {fn : Func} {rs : List ResultVar} (hr : fn.results = rs.toArray) (h5 : rs.length ≤ 4 := by decide) {vs : List Value} (ha : Fits n a ρ) (hv : resV ρ rs = some vs) (w : World) :
    (results fn a.tmps).run P w = .ok (oneOr vs) w := by
  have key : ∀ (rs : List ResultVar) (vs : List Value), resV ρ rs = some vs → rs.map (fun r => match r with | ResultVar.tmp t => a.tmps.getD t undef | _ => undef) = vs ∧ ∀ r ∈ rs, ∃ t, r = ResultVar.tmp t := by
    intro rs
    induction rs with
    | nil => intro vs h; simp [resV] at h; subst h; simp
    | cons x rs ih =>
      intro vs h
      cases x with
      | cell _ _ => simp [resV] at h
      | tmp t =>
        simp only [resV] at h
        split at h
        · rename_i v us h1 h2
          simp only [Option.some.injEq] at h
          subst h
          have := ih us h2
          simp only [List.map_cons, ha.getD h1, this.1, List.mem_cons, true_and]
          intro r hr
          rcases hr with rfl | hr
          · exact ⟨t, rfl⟩
          · exact this.2 r hr
        · cases h
  obtain ⟨h1, h2⟩ := key rs vs hv
  subst h1
  unfold results
  rw [hr]
  rcases rs with _ | ⟨r0, _ | ⟨r1, _ | ⟨r2, _ | ⟨r3, _ | ⟨r4, rs⟩⟩⟩⟩⟩
  · simp [oneOr]
  · obtain ⟨t0, rfl⟩ := h2 r0 (by simp)
    simp [oneOr]
  · obtain ⟨t0, rfl⟩ := h2 r0 (by simp)
    obtain ⟨t1, rfl⟩ := h2 r1 (by simp)
    simp [oneOr]
  · obtain ⟨t0, rfl⟩ := h2 r0 (by simp)
    obtain ⟨t1, rfl⟩ := h2 r1 (by simp)
    obtain ⟨t2, rfl⟩ := h2 r2 (by simp)
    simp [oneOr]
  · obtain ⟨t0, rfl⟩ := h2 r0 (by simp)
    obtain ⟨t1, rfl⟩ := h2 r1 (by simp)
    obtain ⟨t2, rfl⟩ := h2 r2 (by simp)
    obtain ⟨t3, rfl⟩ := h2 r3 (by simp)
    simp [oneOr]
  · simp at h5
theorem g_ret {fn : Func} {rs : List ResultVar} {vs : List Value} (hf : P.funcs[f]? = some fn) (hr : fn.results = rs.toArray) (h5 : rs.length ≤ 4) (hv : resV ρ rs = some vs) (h : ∀ w, C w → R (.returned (oneOr vs)) w) :
    Go P f n R (.code .ret :: k) ρ C := by
  refine ⟨fun a w ha hw cs => ?_⟩
  exact ⟨.returned (oneOr vs), w, _, h w hw, Steps.one step_ret, rfl, rfl, ha.defers, rfl, fn, hf, results_resV hr h5 ha hv w⟩
theorem g_end {fn : Func} {rs : List ResultVar} {vs : List Value} (hf : P.funcs[f]? = some fn) (hr : fn.results = rs.toArray) (h5 : rs.length ≤ 4) (hv : resV ρ rs = some vs) (h : ∀ w, C w → R (.returned (oneOr vs)) w) :
    Go P f n R [] ρ C := by
  refine ⟨fun a w ha hw cs => ?_⟩
  exact ⟨.returned (oneOr vs), w, _, h w hw, Steps.one step_end, rfl, rfl, ha.defers, rfl, fn, hf, results_resV hr h5 ha hv w⟩
/-- A loop: an invariant that names what changes, and a measure. -/
theorem g_while {α : Type} (I : α → Env) (D : α → World → Prop) (m : α → Nat) (x0 : α) {c : Code} (h0 : EnvSub (I x0) ρ) (hC : ∀ w, C w → D x0 w)
    (step : ∀ x, (∀ y, m y < m x → Go P f n R (.inLoop c :: k) (I y) (D y)) → Go P f n R (.code c :: .inLoop c :: k) (I x) (D x)) :
    Go P f n R (.code (.loop c) :: k) ρ C := by
  have key : ∀ d x, m x = d → Go P f n R (.code c :: .inLoop c :: k) (I x) (D x) := by
    intro d
    induction d using Nat.strongRecOn with
    | _ d ih =>
      intro x hx
      refine step x fun y hy => g_inLoop (ih (m y) (hx ▸ hy) y rfl)
  exact g_loop (g_to (key _ x0 rfl) h0 hC)
def QPost (P : Program) (f : FuncId) (n : Nat) (R : Ending → World → Prop) (k : List Item) (C : World → Prop) (e : Exit) (a' : Act) (w' : World) : Prop :=
  e = Exit.normal ∧ C w' ∧ ∃ ρ', Fits n a' ρ' ∧ Go P f n R k ρ' C
/-- A region whose operations are quiet, in whatever order. -/
theorem g_quiet {id : Nat} {l : List Oper} {d : Bool} (hm : P.follows .mixedOrders = true) (hB : d = false ∨ Region.lexB .any l.toArray = true)
    (hdr : ∀ w, C w → C w.drew) (hcl : Closed C) (h : QS P n l C l ρ fun ρ' => Go P f n R k ρ' C) : Go P f n R (.code (.region id l.toArray d) :: k) ρ C := by
  refine ⟨fun a w ha hw cs => ?_⟩
  have hwp : (Code.region id l.toArray d).wp P (QPost P f n R k C) a w := by
    cases d with
    | true =>
      refine wp_region_quiet (C := C) hm (hB.resolve_left (by simp)) (hdr w hw) ?_
      exact quiet_post (fun a' h w' hw' => ⟨rfl, hw', h⟩) _ _ (wpQx_quiet hcl _ _ (h.out a ha))
    | false =>
      refine wp_region_list ?_
      exact list_of_quiet (fun a' w' hw' h => ⟨rfl, hw', h⟩) _ _ _ hw (wpQx_quiet hcl _ _ (h.out a ha))
  obtain ⟨e, a', w', ⟨rfl, hC', ρ', ha', hk⟩, harr⟩ := hwp (base f) k cs
  exact of_steps harr (hk.out a' w' ha' hC' cs)
theorem calls_of_go {fn : Func} {c : Code} {args : List Value} {w : World} (hf : P.funcs[f]? = some fn) (hb : fn.body = some c) (hn : fn.ntmps = n) (hl : args.length ≤ n)
    (hfit : ∀ t v, lk ρ t = some v → args[t]? = some v) (hC : C w) (h : Go P f n R [.code c] ρ C) : Calls P f args.toArray w R := by
  subst hn
  intro cs
  let a : Act := { tmps := args.toArray ++ Array.replicate (fn.ntmps - args.length) undef, defers := [] }
  have henter : Frame.enter P f args.toArray .normal = (base f).at a [.code c] := by
    simp [Frame.enter, Frame.at, hf, hb, base, a]
  rw [henter]
  refine h.out a w ⟨by simp [a]; omega, rfl, ?_⟩ hC cs
  intro t v hl'
  have h1 := hfit t v hl'
  have h2 : t < args.length := by
    rcases Nat.lt_or_ge t args.length with h | h
    · exact h
    · rw [List.getElem?_eq_none h] at h1; cases h1
  have h3 : args[t] = v := by rw [List.getElem?_eq_getElem h2] at h1; exact Option.some.inj h1
  simp [a, Array.getElem?_append, h2, h3]
end
end Go.G
