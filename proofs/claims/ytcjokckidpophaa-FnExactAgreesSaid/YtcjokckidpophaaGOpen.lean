import Derived.Test.YtcjokckidpophaaGMem
import Derived.Deep.Slices
import Derived.ChangeSame
import Derived.WideShapes
import Derived.OpenShut
import Derived.Carry
set_option linter.all false
/-! What comes in, opened. -/
namespace Go.G
open Go.ChangeShapes Go.WideShapes Go.RowKit Go.Deep
/-- Whole numbers within their kind. -/
def kIntW (k : IntKind) : Kd Int := ⟨1, 0, fun _ x cs => cs = [.int k x] ∧ (Lit.int k x).wf = true, fun h => by rw [h.1]; rfl, fun h _ => h⟩
/-- strings within their reach -/
def kStrW : Kd ByteArray := ⟨1, ByteArray.empty, fun _ x cs => cs = [.string x] ∧ x.size ≤ maxLen, fun h => by rw [h.1]; rfl, fun h _ => h⟩
/-- Data of the type t that come in are of the kind k. -/
def Opens (P : Program) (t : TypeId) {α : Type} (k : Kd α) : Prop :=
  ∀ (H : Type) (enc : TypeId × Value → H) (w : World) (base : Nat) (spare : Nat → Bool) (held : Bool) (fuel : Nat) (cs : List Value) (x : DataW H × List MemPlace), DataW.trod enc P w base spare held fuel t cs = some x → ∃ a, k.rep w a cs
/-- an argument -/
def In (P : Program) (w : World) (t : TypeId) (v : Value) : Prop :=
  (∃ r b, Value.okWide P w r b t v) ∧ ∃ (H : Type) (enc : TypeId × Value → H) (base : Nat) (spare : Nat → Bool) (held : Bool) (fuel : Nat) (x : DataW H × List MemPlace), DataW.trod enc P w base spare held fuel t v.cells.toList = some x
theorem list_of {α : Type} {n : Nat} {p : Nat → α → Prop} (h : ∀ i, i < n → ∃ x, p i x) : ∃ xs : List α, xs.length = n ∧ ∀ i (hi : i < xs.length), p i xs[i] := by
  induction n with
  | zero => exact ⟨[], rfl, fun i hi => by simp at hi⟩
  | succ n ih =>
    obtain ⟨xs, h1, h2⟩ := ih fun i hi => h i (by omega)
    obtain ⟨x, hx⟩ := h n (by omega)
    refine ⟨xs ++ [x], by simp [h1], fun i hi => ?_⟩
    by_cases hlt : i < xs.length
    · rw [List.getElem_append_left hlt]; exact h2 i hlt
    · have : i = n := by simp at hi; omega
      subst this
      rw [List.getElem_append_right (by omega)]
      simpa using hx
section
variable {P : Program} {t e : TypeId} {α : Type}
theorem opens_int {k : IntKind} (ht : P.underlying t = some (.int k)) : Opens P t (kIntW k) := fun H enc w base spare held fuel cs x h => by
  obtain ⟨n, h1, _, h3⟩ := DataW.trod_int ht h
  exact ⟨n, h1, h3⟩
theorem opens_bool (ht : P.underlying t = some .bool) : Opens P t kBool := fun H enc w base spare held fuel cs x h => by
  obtain ⟨n, h1, _⟩ := DataW.trod_bool ht h
  exact ⟨n, h1⟩
theorem opens_str (ht : P.underlying t = some .string) : Opens P t kStrW := fun H enc w base spare held fuel cs x h => by
  obtain ⟨n, h1, _, h3⟩ := DataW.trod_string ht h
  exact ⟨n, h1, h3⟩
theorem cells_at {w : World} {base : Nat} {a : Addr} {n : Nat} {cs : List Value} (h : w.cells? base a n = some cs) : cs.length = n ∧ ∀ j u, cs[j]? = some u → w.cell? (a.add j) = some u := by
  obtain ⟨_, hcl, hat⟩ := World.cells?_some h
  refine ⟨hcl, fun j u hj => ?_⟩
  have hlt : j < cs.length := (List.getElem?_eq_some_iff.1 hj).1
  have := hat j (by omega)
  rw [this, hj]
theorem opens_slice {k : Kd α} (ht : P.underlying t = some (.slice e)) (hC : P.cellsOf e = k.sz) (ho : Opens P e k) : Opens P t (kSl k) := fun H enc w base spare held fuel cs x h => by
  rcases open_slice ht h with ⟨rfl, _⟩ | ⟨a, len, cap, m, n, D, Pl, rfl, hb, hl, hm, hmm, hx, hi⟩
  · exact ⟨[], _, rfl, Rd.nil k w none 0⟩
  · have hlm : len ≤ m := by rw [hmm]; split <;> omega
    have hlen : len ≤ 9223372036854775807 := by unfold maxLen at hm; omega
    obtain ⟨xs, h1, h2⟩ := list_of (n := len) (p := fun i y => ∃ cs', k.rep w y cs' ∧ ∀ j u, cs'[j]? = some u → w.cell? (a.add (i * k.sz + j)) = some u) fun i hi' => by
      obtain ⟨cs', hc, htr⟩ := hi i (by omega)
      obtain ⟨y, hy⟩ := ho H enc w base spare held n cs' _ htr
      refine ⟨y, cs', hy, fun j u hj => ?_⟩
      have := (cells_at hc).2 j u hj
      rw [hC, Go.Deep.add_add] at this
      exact this
    subst h1
    exact ⟨xs, _, rfl, some a, cap, rfl, hlen, fun i hi' => ⟨a, rfl, h2 i hi'⟩⟩
theorem opens_pair {β γ : Type} {t1 : TypeId} {t2 : TypeId} {f0 f1 : Field} {k : Kd β} {l : Kd γ} (ht : P.underlying t = some (.struct #[f0, f1])) (h0 : f0.offset = 0) (h1 : f1.offset = k.sz) (c0 : P.cellsOf f0.type = k.sz) (c1 : P.cellsOf f1.type = l.sz) (hc : P.cellsOf t = k.sz + l.sz)
    (o0 : Opens P f0.type k) (o1 : Opens P f1.type l) : Opens P t (kPair k l) := fun H enc w base spare held fuel cs x h => by
  obtain ⟨xs, n, _, hx, hl, hxl, hf⟩ := DataW.trod_struct ht h
  have e0 := hf 0 f0 rfl
  have e1 := hf 1 f1 rfl
  rw [h0, c0, List.drop_zero] at e0
  rw [h1, c1] at e1
  have hx0 : xs[0]? = some (xs[0]'(by simp [hxl])) := List.getElem?_eq_getElem _
  have hx1 : xs[1]? = some (xs[1]'(by simp [hxl])) := List.getElem?_eq_getElem _
  obtain ⟨a, ha⟩ := o0 H enc w base spare held n _ _ (e0.trans hx0)
  obtain ⟨b, hb⟩ := o1 H enc w base spare held n _ _ (e1.trans hx1)
  refine ⟨(a, b), _, _, ?_, ha, hb⟩
  rw [List.take_of_length_le (l := List.drop k.sz cs) (by rw [List.length_drop]; omega), List.take_append_drop]
theorem opens_triple {α1 α2 α3 : Type} {f0 f1 f2 : Field} {k : Kd α1} {l : Kd α2} {m : Kd α3} (ht : P.underlying t = some (.struct #[f0, f1, f2])) (h0 : f0.offset = 0) (h1 : f1.offset = k.sz) (h2 : f2.offset = k.sz + l.sz) (c0 : P.cellsOf f0.type = k.sz) (c1 : P.cellsOf f1.type = l.sz) (c2 : P.cellsOf f2.type = m.sz) (hc : P.cellsOf t = k.sz + l.sz + m.sz)
    (o0 : Opens P f0.type k) (o1 : Opens P f1.type l) (o2 : Opens P f2.type m) : Opens P t (kPair k (kPair l m)) := fun H enc w base spare held fuel cs x h => by
  obtain ⟨xs, n, _, hx, hl, hxl, hf⟩ := DataW.trod_struct ht h
  have e0 := hf 0 f0 rfl
  have e1 := hf 1 f1 rfl
  have e2 := hf 2 f2 rfl
  rw [h0, c0, List.drop_zero] at e0
  rw [h1, c1] at e1
  rw [h2, c2] at e2
  have hx0 : xs[0]? = some (xs[0]'(by simp [hxl])) := List.getElem?_eq_getElem _
  have hx1 : xs[1]? = some (xs[1]'(by simp [hxl])) := List.getElem?_eq_getElem _
  have hx2 : xs[2]? = some (xs[2]'(by simp [hxl])) := List.getElem?_eq_getElem _
  obtain ⟨a, ha⟩ := o0 H enc w base spare held n _ _ (e0.trans hx0)
  obtain ⟨b, hb⟩ := o1 H enc w base spare held n _ _ (e1.trans hx1)
  obtain ⟨c, hc'⟩ := o2 H enc w base spare held n _ _ (e2.trans hx2)
  refine ⟨(a, b, c), _, _, ?_, ha, _, _, rfl, hb, hc'⟩
  rw [List.take_of_length_le (l := List.drop (k.sz + l.sz) cs) (by rw [List.length_drop]; omega), ← List.drop_drop, List.take_append_drop, List.take_append_drop]
end
section
variable {P : Program} {t : TypeId} {w : World} {v : Value}
theorem In.int {k : IntKind} (ht : P.underlying t = some (.int k)) (h : In P w t v) : ∃ n, v = .int k n ∧ (Lit.int k n).wf = true := by
  obtain ⟨⟨r, b, ho⟩, H, enc, base, spare, held, fuel, x, hx⟩ := h
  obtain ⟨n, rfl⟩ := okWide_int ht ho
  obtain ⟨a, ha, hw⟩ := opens_int ht H enc w base spare held fuel _ x hx
  simp [Value.cells] at ha
  subst ha
  exact ⟨n, rfl, hw⟩
theorem In.bool (ht : P.underlying t = some .bool) (h : In P w t v) : ∃ b, v = .bool b := by
  obtain ⟨⟨r, b, ho⟩, _⟩ := h
  exact okWide_bool ht ho
theorem In.str (ht : P.underlying t = some .string) (h : In P w t v) : ∃ s, v = .string s ∧ s.size ≤ maxLen := by
  obtain ⟨⟨r, b, ho⟩, H, enc, base, spare, held, fuel, x, hx⟩ := h
  obtain ⟨n, rfl⟩ := okWide_string ht ho
  obtain ⟨a, ha, hw⟩ := opens_str ht H enc w base spare held fuel _ x hx
  simp [Value.cells] at ha
  subst ha
  exact ⟨n, rfl, hw⟩
theorem In.slice {e : TypeId} {α : Type} {k : Kd α} (ht : P.underlying t = some (.slice e)) (hC : P.cellsOf e = k.sz) (ho : Opens P e k) (h : In P w t v) : ∃ A c xs, v = .slice A xs.length c ∧ xs.length ≤ 9223372036854775807 ∧ RdA k w A xs := by
  obtain ⟨⟨r, b, hok⟩, H, enc, base, spare, held, fuel, x, hx⟩ := h
  obtain ⟨A, m, c, rfl⟩ := okWide_slice ht hok
  obtain ⟨xs, u, hu, A', c', h1, h2, h3⟩ := opens_slice ht hC ho H enc w base spare held fuel _ x hx
  simp [Value.cells] at hu
  subst hu
  injection h1 with h1 h4 h5
  subst h1 h4 h5
  exact ⟨A, c, xs, rfl, h2, h3⟩
theorem In.struct {fs : Array Field} {α : Type} {k : Kd α} (ht : P.underlying t = some (.struct fs)) (ho : Opens P t k) (h : In P w t v) : ∃ cs x, v = .agg cs ∧ k.rep w x cs.toList := by
  obtain ⟨⟨r, b, hok⟩, H, enc, base, spare, held, fuel, x, hx⟩ := h
  obtain ⟨cs, rfl, hsz⟩ := okWide_struct ht hok
  obtain ⟨a, ha⟩ := ho H enc w base spare held fuel _ x hx
  exact ⟨cs, a, rfl, by simpa [Value.cells] using ha⟩
end
/-- What is of the one kind is of the other. -/
structure KdLe {α : Type} (k l : Kd α) : Prop where
  sz : k.sz = l.sz
  rep : ∀ w x cs, k.rep w x cs → l.rep w x cs
theorem RdA.le {α : Type} {k l : Kd α} (h : KdLe k l) {w : World} {A : Option Addr} {xs : List α} (hr : RdA k w A xs) : RdA l w A xs := fun i hi => by
  obtain ⟨ad, h1, cs, h2, h3⟩ := hr i hi
  exact ⟨ad, h1, cs, h.rep _ _ _ h2, fun j u hj => by rw [← h.sz]; exact h3 j u hj⟩
theorem le_intW (k : IntKind) : KdLe (kIntW k) (kInt k) := ⟨rfl, fun _ _ _ h => h.1⟩
theorem le_strW : KdLe kStrW kStr := ⟨rfl, fun _ _ _ h => h.1⟩
theorem le_sl {α : Type} {k l : Kd α} (h : KdLe k l) : KdLe (kSl k) (kSl l) := ⟨rfl, fun w x cs ⟨v, hv, A, c, h1, h2, h3⟩ => ⟨v, hv, A, c, h1, h2, h3.le h⟩⟩
theorem le_pair {α β : Type} {a b : Enc α} {c d : Enc β} {k : Kd α} {l : Kd β} (h : KdLe k (Kd.of a)) (h' : KdLe l (Kd.of c)) : KdLe (kPair k l) (Kd.of (ePair a c)) :=
  ⟨by show k.sz + l.sz = a.sz + c.sz; rw [h.sz, h'.sz]; rfl, fun w x cs ⟨c1, c2, e, h1, h2⟩ => by
    show cs = a.cells x.1 ++ c.cells x.2
    rw [e, show c1 = a.cells x.1 from h.rep _ _ _ h1, show c2 = c.cells x.2 from h'.rep _ _ _ h2]⟩
theorem RdA.all {α : Type} {k : Kd α} {p : α → Prop} (hp : ∀ w x cs, k.rep w x cs → p x) {w : World} {A : Option Addr} {xs : List α} (h : RdA k w A xs) : ∀ x ∈ xs, p x := fun x hx => by
  obtain ⟨i, hi, rfl⟩ := List.getElem_of_mem hx
  obtain ⟨_, _, cs, h1, _⟩ := h i hi
  exact hp _ _ _ h1
theorem wf_i64 {n : Int} (h : (Lit.int .i64 n).wf = true) : -9223372036854775808 ≤ n ∧ n ≤ 9223372036854775807 := by
  simp [Lit.wf, IntKind.min, IntKind.max, IntKind.bits, IntKind.signed] at h
  omega
end Go.G
