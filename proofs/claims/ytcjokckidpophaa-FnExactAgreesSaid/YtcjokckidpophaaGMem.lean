import Derived.Test.YtcjokckidpophaaGOps
set_option linter.all false
namespace Go.G
open Go.RowKit
theorem Chg.alloc (w : World) (o : Obj) : Ext w (w.alloc o) := ⟨rfl, rfl, rfl, by simp, fun k hk _ => heap_alloc_old w o hk⟩
theorem cell_lt {w : World} {a : Addr} {v : Value} (h : w.cell? a = some v) : a.block < w.heap.size := World.block_lt_of_cell? w a h
theorem Ext.cell {w w' : World} (h : Ext w w') {a : Addr} {v : Value} (hc : w.cell? a = some v) : w'.cell? a = some v :=
  (World.cell?_of_block (h.block a.block (cell_lt hc) id)).trans hc

/-! ### What is read: data behind slices -/
structure Kd (α : Type) where
  sz : Nat
  zero : α
  rep : World → α → List Value → Prop
  len : ∀ {w x cs}, rep w x cs → cs.length = sz
  ext : ∀ {w w' x cs}, rep w x cs → Ext w w' → rep w' x cs
/-- The slice value v reads as xs. -/
def RdA {α : Type} (k : Kd α) (w : World) (A : Option Addr) (xs : List α) : Prop :=
  ∀ i (h : i < xs.length), ∃ ad, A = some ad ∧ ∃ cs, k.rep w xs[i] cs ∧ ∀ j u, cs[j]? = some u → w.cell? (ad.add (i * k.sz + j)) = some u
def Rd {α : Type} (k : Kd α) (w : World) (v : Value) (xs : List α) : Prop :=
  ∃ A c, v = .slice A xs.length c ∧ xs.length ≤ 9223372036854775807 ∧ RdA k w A xs
theorem RdA.ext {α : Type} {k : Kd α} {w w' : World} {A : Option Addr} {xs : List α} (h : RdA k w A xs) (e : Ext w w') : RdA k w' A xs := fun i hi =>
  let ⟨ad, ha, cs, hr, hc⟩ := h i hi
  ⟨ad, ha, cs, k.ext hr e, fun j u hj => e.cell (hc j u hj)⟩
theorem Rd.ext {α : Type} {k : Kd α} {w w' : World} {v : Value} {xs : List α} (h : Rd k w v xs) (e : Ext w w') : Rd k w' v xs :=
  let ⟨A, c, hv, hl, ha⟩ := h
  ⟨A, c, hv, hl, ha.ext e⟩
theorem Rd.nil {α : Type} (k : Kd α) (w : World) (A : Option Addr) (c : Nat) : Rd k w (.slice A 0 c) [] := ⟨A, c, rfl, by simp, fun i hi => by simp at hi⟩
/-- Data that is told without memory. -/
structure Enc (α : Type) where
  sz : Nat
  zero : α
  cells : α → List Value
  len : ∀ x, (cells x).length = sz
  one : ∀ x, ∀ u ∈ cells x, u.oneCell' = true
  pos : 0 < sz
def Kd.of {α : Type} (e : Enc α) : Kd α := ⟨e.sz, e.zero, fun _ x cs => cs = e.cells x, fun h => by rw [h, e.len], fun h _ => h⟩
def eInt (k : IntKind) : Enc Int := ⟨1, 0, fun x => [.int k x], fun _ => rfl, fun x u h => by rw [List.mem_singleton.1 h]; rfl, by decide⟩
def eBool : Enc Bool := ⟨1, false, fun x => [.bool x], fun _ => rfl, fun x u h => by rw [List.mem_singleton.1 h]; rfl, by decide⟩
def eStr : Enc ByteArray := ⟨1, ByteArray.empty, fun x => [.string x], fun _ => rfl, fun x u h => by rw [List.mem_singleton.1 h]; rfl, by decide⟩
def ePair {α β : Type} (a : Enc α) (b : Enc β) : Enc (α × β) := ⟨a.sz + b.sz, (a.zero, b.zero), fun x => a.cells x.1 ++ b.cells x.2, fun x => by simp [a.len, b.len],
  fun x u h => by exact (List.mem_append.1 h).elim (a.one _ _) (b.one _ _), by have := a.pos; omega⟩
abbrev eI := eInt .i64
abbrev kInt (k : IntKind) : Kd Int := Kd.of (eInt k)
abbrev kBool : Kd Bool := Kd.of eBool
abbrev kStr : Kd ByteArray := Kd.of eStr
def kSl {α : Type} (k : Kd α) : Kd (List α) := ⟨1, [], fun w x cs => ∃ v, cs = [v] ∧ Rd k w v x, fun h => by obtain ⟨v, rfl, _⟩ := h; rfl, fun h e => let ⟨v, hv, hr⟩ := h; ⟨v, hv, hr.ext e⟩⟩
abbrev kI := kInt .i64
def kPair {α β : Type} (k : Kd α) (l : Kd β) : Kd (α × β) :=
  ⟨k.sz + l.sz, (k.zero, l.zero), fun w x cs => ∃ c1 c2, cs = c1 ++ c2 ∧ k.rep w x.1 c1 ∧ l.rep w x.2 c2,
   fun h => by obtain ⟨c1, c2, rfl, h1, h2⟩ := h; simp [k.len h1, l.len h2], fun h e => let ⟨c1, c2, hc, h1, h2⟩ := h; ⟨c1, c2, hc, k.ext h1 e, l.ext h2 e⟩⟩
theorem RdA.some_ {α : Type} {k : Kd α} {w : World} {A : Option Addr} {xs : List α} (h : RdA k w A xs) {i : Int} (h0 : 0 ≤ i) (h1 : i < xs.length) : A.isSome = true := by
  obtain ⟨ad, rfl, _⟩ := h i.toNat (by omega); rfl
/-- An element of one cell, read. -/
theorem RdA.pts1 {α : Type} {k : Kd α} {w : World} {A : Option Addr} {xs : List α} (h : RdA k w A xs) {i : Int} (h0 : 0 ≤ i) (h1 : i < xs.length) {f : α → Value} (hk : ∀ w x cs, k.rep w x cs → cs = [f x]) :
    pts w (elemPtr A (i.toNat * k.sz)) (f (xs.getD i.toNat k.zero)) := by
  have hi : i.toNat < xs.length := by omega
  obtain ⟨ad, rfl, cs, hr, hc⟩ := h i.toNat hi
  obtain rfl := hk _ _ _ hr
  have := hc 0 _ rfl
  refine ⟨_, rfl, ?_⟩
  simpa [List.getD_eq_getElem?_getD, hi] using this
theorem RdA.ptsF {α : Type} {k : Kd α} {w : World} {A : Option Addr} {xs : List α} (h : RdA k w A xs) {i : Int} (h0 : 0 ≤ i) (h1 : i < xs.length) {f : α → Value} (j : Nat) (hk : ∀ w x cs, k.rep w x cs → cs[j]? = some (f x)) :
    pts w (elemPtr A (i.toNat * k.sz + j)) (f (xs.getD i.toNat k.zero)) := by
  have hi : i.toNat < xs.length := by omega
  obtain ⟨ad, rfl, cs, hr, hc⟩ := h i.toNat hi
  have := hc j _ (hk _ _ _ hr)
  refine ⟨_, rfl, ?_⟩
  simpa [List.getD_eq_getElem?_getD, hi] using this

/-! ### What the call itself has made: assertions with their blocks -/
structure Asn where
  holds : World → (Nat → Prop) → Prop
  loc : ∀ {w w' F}, holds w F → (∀ b, F b → w'.heap[b]? = w.heap[b]?) → holds w' F
def SL (B : Nat) (w : World) : List Asn → (Nat → Prop) → Prop
  | [], F => ∀ b, ¬ F b
  | A :: as, F => ∃ F1 F2, A.holds w F1 ∧ SL B w as F2 ∧ (∀ b, ¬ (F1 b ∧ F2 b)) ∧ (∀ b, F b ↔ F1 b ∨ F2 b) ∧ ∀ b, F1 b → B ≤ b ∧ b < w.heap.size
theorem SL.in_ {B : Nat} {w : World} : ∀ {as : List Asn} {F : Nat → Prop}, SL B w as F → ∀ b, F b → B ≤ b ∧ b < w.heap.size
  | [], _, h, b, hb => (h b hb).elim
  | A :: as, F, h, b, hb => by
    obtain ⟨F1, F2, _, h2, _, h4, h5⟩ := h
    rcases (h4 b).1 hb with h | h
    · exact h5 b h
    · exact SL.in_ h2 b h
theorem SL.keep {B : Nat} {w w' : World} : ∀ {as : List Asn} {F : Nat → Prop}, SL B w as F → w.heap.size ≤ w'.heap.size → (∀ b, F b → w'.heap[b]? = w.heap[b]?) → SL B w' as F
  | [], _, h, _, _ => h
  | A :: as, F, h, hs, hb => by
    obtain ⟨F1, F2, h1, h2, h3, h4, h5⟩ := h
    exact ⟨F1, F2, A.loc h1 fun b hf => hb b ((h4 b).2 (.inl hf)), SL.keep h2 hs fun b hf => hb b ((h4 b).2 (.inr hf)), h3, h4, fun b hf => ⟨(h5 b hf).1, Nat.lt_of_lt_of_le (h5 b hf).2 hs⟩⟩
theorem SL.ext {B : Nat} {w w' : World} {as : List Asn} {F : Nat → Prop} (h : SL B w as F) (e : Ext w w') : SL B w' as F :=
  h.keep e.size fun b hb => e.block b (h.in_ b hb).2 id
theorem SL.app {B : Nat} {w : World} : ∀ {as bs : List Asn} {F G : Nat → Prop}, SL B w as F → SL B w bs G → (∀ b, ¬ (F b ∧ G b)) → SL B w (as ++ bs) (fun b => F b ∨ G b)
  | [], bs, F, G, h1, h2, _ => by
    have : (fun b => F b ∨ G b) = G := funext fun b => propext ⟨fun h => h.elim (fun h => (h1 b h).elim) id, .inr⟩
    rw [this]; exact h2
  | A :: as, bs, F, G, h1, h2, hd => by
    obtain ⟨F1, F2, a1, a2, a3, a4, a5⟩ := h1
    refine ⟨F1, fun b => F2 b ∨ G b, a1, SL.app a2 h2 (fun b hb => hd b ⟨(a4 b).2 (.inr hb.1), hb.2⟩), ?_, ?_, a5⟩
    · intro b hb
      rcases hb.2 with h | h
      · exact a3 b ⟨hb.1, h⟩
      · exact hd b ⟨(a4 b).2 (.inl hb.1), h⟩
    · intro b
      show F b ∨ G b ↔ F1 b ∨ F2 b ∨ G b
      rw [a4 b]
      exact or_assoc
theorem SL.mono {B B' : Nat} {w : World} (hB : B' ≤ B) : ∀ {as : List Asn} {F : Nat → Prop}, SL B w as F → SL B' w as F
  | [], _, h => h
  | A :: as, F, h => by
    obtain ⟨F1, F2, a1, a2, a3, a4, a5⟩ := h
    exact ⟨F1, F2, a1, SL.mono hB a2, a3, a4, fun b hb => ⟨Nat.le_trans hB (a5 b hb).1, (a5 b hb).2⟩⟩
theorem SL.perm {B : Nat} {w : World} {as bs : List Asn} (hp : as.Perm bs) : ∀ {F : Nat → Prop}, SL B w as F → SL B w bs F := by
  induction hp with
  | nil => exact fun h => h
  | cons x _ ih =>
    intro F h
    obtain ⟨F1, F2, a1, a2, a⟩ := h
    exact ⟨F1, F2, a1, ih a2, a⟩
  | swap x y l =>
    intro F h
    obtain ⟨F1, F2, a1, ⟨G1, G2, b1, b2, b3, b4, b5⟩, a3, a4, a5⟩ := h
    refine ⟨G1, fun b => F1 b ∨ G2 b, b1, ⟨F1, G2, a1, b2, fun b hb => a3 b ⟨hb.1, (b4 b).2 (.inr hb.2)⟩, fun _ => Iff.rfl, a5⟩, ?_, ?_, b5⟩
    · intro b hb
      rcases hb.2 with h | h
      · exact a3 b ⟨h, (b4 b).2 (.inl hb.1)⟩
      · exact b3 b ⟨hb.1, h⟩
    · intro b
      rw [a4 b, b4 b]
      constructor <;> (intro h; rcases h with h | h | h) <;> simp [h]
  | trans _ _ ih1 ih2 => exact fun h => ih2 (ih1 h)
/-- The class of the worlds of a call: begun in w0, with these made since. -/
def cls (w0 : World) (as : List Asn) (w : World) : Prop := Ext w0 w ∧ ∃ F, SL w0.heap.size w as F
theorem cls.drew {w0 : World} {as : List Asn} : ∀ w, cls w0 as w → cls w0 as w.drew := fun w h =>
  ⟨h.1.drew, let ⟨F, hF⟩ := h.2; ⟨F, hF.keep (Nat.le_refl _) fun _ _ => rfl⟩⟩
theorem cls.ext {w0 : World} {as : List Asn} {w w' : World} (h : cls w0 as w) (e : Ext w w') : cls w0 as w' :=
  ⟨h.1.trans e, let ⟨F, hF⟩ := h.2; ⟨F, hF.ext e⟩⟩
theorem cls.closed {w0 : World} {as : List Asn} : Closed (cls w0 as) := fun _ _ h e => h.ext e
theorem cls.start (w0 : World) : cls w0 [] w0 := ⟨Chg.refl _ _, fun _ => False, fun _ h => h⟩
theorem cls.perm {w0 : World} {as bs : List Asn} {w : World} (h : cls w0 as w) (hp : as.Perm bs) : cls w0 bs w := ⟨h.1, let ⟨F, hF⟩ := h.2; ⟨F, hF.perm hp⟩⟩
theorem cls.tail {w0 : World} {A : Asn} {as : List Asn} {w : World} (h : cls w0 (A :: as) w) : cls w0 as w := ⟨h.1, let ⟨_, _, F2, _, h2, _⟩ := h.2; ⟨F2, h2⟩⟩
theorem SL.sub {B : Nat} {w : World} : ∀ {as bs : List Asn} {F : Nat → Prop}, SL B w bs F → as.Sublist bs → ∃ G, SL B w as G ∧ ∀ b, G b → F b := by
  intro as bs F h hs
  induction hs generalizing F with
  | slnil => exact ⟨F, h, fun _ h => h⟩
  | cons X _ ih =>
    obtain ⟨F1, F2, _, a2, _, a4, _⟩ := h
    obtain ⟨G, g1, g2⟩ := ih a2
    exact ⟨G, g1, fun b hb => (a4 b).2 (.inr (g2 b hb))⟩
  | cons_cons X _ ih =>
    obtain ⟨F1, F2, a1, a2, a3, a4, a5⟩ := h
    obtain ⟨G, g1, g2⟩ := ih a2
    exact ⟨fun b => F1 b ∨ G b, ⟨F1, G, a1, g1, fun b hb => a3 b ⟨hb.1, g2 b hb.2⟩, fun _ => Iff.rfl, a5⟩, fun b hb => (a4 b).2 (hb.imp id (g2 b))⟩
theorem cls.sub {w0 : World} {as bs : List Asn} {w : World} (h : cls w0 bs w) (hs : as.Sublist bs) : cls w0 as w := ⟨h.1, let ⟨F, hF⟩ := h.2; let ⟨G, g1, _⟩ := hF.sub hs; ⟨G, g1⟩⟩
/-- What a fresh result brings. -/
theorem cls.add {w0 : World} {as new : List Asn} {w w' : World} (h : cls w0 as w) (e : Ext w w') {G : Nat → Prop} (hn : SL w.heap.size w' new G) : cls w0 (new ++ as) w' := by
  obtain ⟨h1, F, hF⟩ := h
  refine ⟨h1.trans e, fun b => G b ∨ F b, (hn.mono h1.size).app (hF.ext e) fun b hb => ?_⟩
  have := hn.in_ b hb.1
  have := hF.in_ b hb.2
  omega
theorem cls.get {w0 : World} {as : List Asn} {w : World} (h : cls w0 as w) {A : Asn} (hA : A ∈ as) : ∃ F, A.holds w F := by
  obtain ⟨h1, F, hF⟩ := h
  clear h1
  induction as generalizing F with
  | nil => cases hA
  | cons B bs ih =>
    obtain ⟨F1, F2, a1, a2, _⟩ := hF
    cases hA with
    | head => exact ⟨F1, a1⟩
    | tail _ hA => exact ih hA F2 a2
/-- One of them is turned, by what touches its blocks alone. -/
theorem cls.upd {w0 : World} {A A' : Asn} {as : List Asn} {w w' : World} (h : cls w0 (A :: as) w)
    (hs : ∀ F, A.holds w F → (∀ b, F b → w0.heap.size ≤ b ∧ b < w.heap.size) → Chg F w w' ∧ ∃ F', A'.holds w' F' ∧ ∀ b, F' b → (F b ∨ w.heap.size ≤ b) ∧ b < w'.heap.size) : cls w0 (A' :: as) w' := by
  obtain ⟨h1, F, F1, F2, a1, a2, a3, a4, a5⟩ := h
  obtain ⟨hc, F', hA', hF'⟩ := hs F1 a1 a5
  refine ⟨?_, fun b => F' b ∨ F2 b, F', F2, hA', a2.keep hc.size fun b hb => hc.block b (a2.in_ b hb).2 fun hf => a3 b ⟨hf, hb⟩, ?_, fun _ => Iff.rfl, ?_⟩
  · have := (h1.trans (b := w) (c := w) (Chg.refl _ _))
    refine ⟨hc.os.trans h1.os, hc.tape.trans h1.tape, hc.output.trans h1.output, Nat.le_trans h1.size hc.size, fun k hk _ => ?_⟩
    exact (hc.block k (Nat.lt_of_lt_of_le hk h1.size) fun hf => by have := (a5 k hf).1; omega).trans (h1.block k hk id)
  · intro b hb
    rcases (hF' b hb.1).1 with h | h
    · exact a3 b ⟨h, hb.2⟩
    · have := (a2.in_ b hb.2).2; omega
  · intro b hb
    obtain ⟨h, h'⟩ := hF' b hb
    refine ⟨?_, h'⟩
    rcases h with h | h
    · exact (a5 b h).1
    · have := h1.size; omega

/-- A block of cells, whole. -/
def blk (b : Nat) (cs : List Value) (T : TypeId) : Asn := ⟨fun w F => (∀ k, F k ↔ k = b) ∧ w.heap[b]? = some (.cells cs.toArray T (0, 0)), fun h hb => ⟨h.1, (hb b ((h.1 b).2 rfl)).trans h.2⟩⟩
theorem blk_pts {b : Nat} {cs : List Value} {T : TypeId} {w : World} {F : Nat → Prop} (h : (blk b cs T).holds w F) {o : Nat} {v : Value} (hv : cs[o]? = some v) : pts w (.pointer (some ⟨b, o, none⟩)) v :=
  ⟨_, rfl, by simp [World.cell?, h.2, hv]⟩
/-- A slice of the call's own: it begins its block; what follows behind its length is spare. -/
def row (v : Value) (T : TypeId) (sz : Nat) (xs : List Value) : Asn :=
  ⟨fun w F => (∀ k, F k ↔ v.ownBlock = some k) ∧ ∃ n, w.ownsRow 0 T sz v n xs,
   fun {w w' F} h hb => ⟨h.1, let ⟨n, hn⟩ := h.2; ⟨n, by
     refine ⟨hn.1, ?_⟩
     rcases hn.2 with hx | ⟨g, cap, cur, rfl, hg, hgg, rest⟩
     · exact .inl hx
     · exact .inr ⟨g, cap, cur, rfl, hg, (hb g ((h.1 g).2 (by simp [Value.ownBlock]))).trans hgg, rest⟩⟩⟩⟩
/-- .. of plain data -/
def rowE {α : Type} (e : Enc α) (A : Option Addr) (c : Nat) (T : TypeId) (l : List α) : Asn := row (.slice A l.length c) T e.sz (l.flatMap e.cells)
theorem flatMap_at {α : Type} (e : Enc α) : ∀ (l : List α) (i : Nat) (h : i < l.length) (j : Nat), j < e.sz → (l.flatMap e.cells)[i * e.sz + j]? = (e.cells l[i])[j]?
  | [], _, h, _, _ => by simp at h
  | x :: l, 0, _, j, hj => by simp [List.getElem?_append_left (show j < (e.cells x).length by rw [e.len]; exact hj)]
  | x :: l, i + 1, h, j, hj => by
    have h1 : (e.cells x).length = e.sz := e.len x
    have := flatMap_at e l i (by simpa using h) j hj
    simp only [List.flatMap_cons, List.getElem_cons_succ]
    rw [List.getElem?_append_right (by rw [h1, Nat.add_mul]; omega), h1, ← this]
    congr 1
    rw [Nat.add_mul]; omega
theorem rowE_rd {α : Type} {e : Enc α} {A : Option Addr} {c : Nat} {T : TypeId} {l : List α} {w : World} {F : Nat → Prop} (h : (rowE e A c T l).holds w F) : RdA (Kd.of e) w A l := by
  intro i hi
  obtain ⟨_, n, hn⟩ := h
  rcases hn.2 with ⟨h1, h2⟩ | ⟨g, cap, cur, h1, h2⟩
  · injection h1 with _ h1 _
    omega
  · injection h1 with h1 h3 h4
    subst h1
    refine ⟨_, rfl, e.cells l[i], rfl, fun j u hj => ?_⟩
    have hjl : j < e.sz := by rw [← e.len l[i]]; exact (List.getElem?_eq_some_iff.1 hj).1
    exact hn.cells (g := g) rfl (i * e.sz + j) u (by rw [flatMap_at e l i hi j hjl]; exact hj)
theorem rowE_len {α : Type} {e : Enc α} {A : Option Addr} {c : Nat} {T : TypeId} {l : List α} {w : World} {F : Nat → Prop} (h : (rowE e A c T l).holds w F) : l.length ≤ 9223372036854775807 := by
  obtain ⟨_, n, hn⟩ := h
  rcases hn.2 with ⟨h1, h2⟩ | ⟨g, cap, cur, h1, h2, h3, h4, h5, _⟩
  · injection h1 with _ h1 _
    omega
  · injection h1 with h1 h6 h7
    simp only [maxLen] at h5
    omega
end Go.G
