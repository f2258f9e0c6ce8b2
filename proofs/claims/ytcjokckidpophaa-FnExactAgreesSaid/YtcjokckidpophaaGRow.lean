import Derived.Test.YtcjokckidpophaaGAuto
import Derived.Laws.OwnMore
import Derived.Laws.MakeOwn
import Derived.Maps.AppendAt
set_option linter.all false
namespace Go.G
open Go.RowKit
def pick : Nat → List Asn → Option (Asn × List Asn)
  | _, [] => none
  | 0, A :: as => some (A, as)
  | i + 1, A :: as => match pick i as with
    | some (B, bs) => some (B, A :: bs)
    | none => none
theorem pick_perm : ∀ {i : Nat} {as : List Asn} {A : Asn} {bs : List Asn}, pick i as = some (A, bs) → as.Perm (A :: bs)
  | 0, [], _, _, h => by simp [pick] at h
  | i + 1, [], _, _, h => by simp [pick] at h
  | 0, X :: as, A, bs, h => by
    simp only [pick, Option.some.injEq, Prod.mk.injEq] at h
    obtain ⟨rfl, rfl⟩ := h
    exact List.Perm.refl _
  | i + 1, X :: as, A, bs, h => by
    simp only [pick] at h
    split at h
    · rename_i B cs hp
      simp only [Option.some.injEq, Prod.mk.injEq] at h
      obtain ⟨rfl, rfl⟩ := h
      exact ((pick_perm hp).cons X).trans (List.Perm.swap _ _ _)
    · cases h
def splice (cs : List Value) (o : Nat) (vs : List Value) : List Value := cs.take o ++ vs ++ cs.drop (o + vs.length)
def ones : List Value → Bool
  | [] => true
  | v :: r => v.oneCell' && ones r
theorem ones_spec : ∀ {vs : List Value}, ones vs = true → ∀ v ∈ vs, v.oneCell' = true
  | [], _, _, h => by cases h
  | u :: r, h, v, hv => by
    simp only [ones, Bool.and_eq_true] at h
    rcases List.mem_cons.1 hv with rfl | hv
    · exact h.1
    · exact ones_spec h.2 v hv
def tySz (P : Program) (t : TypeId) (sz : Nat) : Bool := match P.info? t with | some i => Nat.beq i.size sz | none => false
theorem tySz_spec {P : Program} {t : TypeId} {sz : Nat} (h : tySz P t sz = true) : ∃ i, P.info? t = some i ∧ i.size = sz := by
  unfold tySz at h
  split at h
  · rename_i i hi; exact ⟨i, hi, Nat.eq_of_beq_eq_true h⟩
  · cases h
theorem cls.pick {w0 w : World} {as : List Asn} (h : cls w0 as w) {i : Nat} {A : Asn} {bs : List Asn} (hp : pick i as = some (A, bs)) : cls w0 (A :: bs) w := h.perm (pick_perm hp)
theorem run_storeVar {P : Program} {w : World} {b o : Nat} {cs : List Value} {T t : TypeId} {v : Value} {vs : List Value} (hv : cellsL v = vs) (hsz : tySz P t vs.length = true) (h1 : ones vs = true) (hb : w.heap[b]? = some (.cells cs.toArray T (0, 0))) (hl : o + vs.length ≤ cs.length) :
    (storeVar t ⟨b, o, none⟩ v).run P w = .ok () (w.setRow b (splice cs o vs).toArray) := by
  subst hv
  obtain ⟨i, hi, hs⟩ := tySz_spec hsz
  have := run_storeCells_at P b o T (cellsL v) 0 cs.toArray w hb (by simpa using hl) (ones_spec h1)
  simp only [Nat.add_zero] at this
  simp [storeVar, sizeOf, typeInfo, hi, hs, this, cells_cellsL, splice]
theorem chg_setRow {w : World} {b : Nat} (cs : Array Value) : Chg (fun k => k = b) w (w.setRow b cs) :=
  ⟨rfl, rfl, rfl, by simp [World.setRow], fun k _ hk => setRow_other w b k cs hk⟩
section
variable {P : Program} {f : FuncId} {n : Nat} {R : Ending → World → Prop} {k : List Item} {Φ : Env → (World → Prop) → Prop} {ops l : List Oper} {ρ : Env} {w0 : World} {as as' : List Asn}
  {d : Nat} {ty : TypeId} {pos : String} {after : Array Edge} {g : Option (Nat × Bool)}
/-- box -/
theorem Lb {x : Operand} {T : TypeId} {v : Value}
    (k' : ∀ b, LS P n Φ ops l ((d, .pointer (some ⟨b, 0, none⟩)) :: ρ) (cls w0 (blk b (cellsL v) T :: as))) (hg : want ops ρ g = some true := by rfl) (hd : Nat.blt d n = true := by rfl) (hx : ev ρ x = some v := by rfl) :
    LS P n Φ ops (⟨some d, .box T x, ty, pos, after, g⟩ :: l) ρ (cls w0 as) := ls_box hg hd hx k'
/-- a variable of the call's own, zero -/
theorem La (z : Value) {T : TypeId}
    (k' : ∀ b, LS P n Φ ops l ((d, .pointer (some ⟨b, 0, none⟩)) :: ρ) (cls w0 (blk b (cellsL z) T :: as))) (hg : want ops ρ g = some true := by rfl) (hd : Nat.blt d n = true := by rfl) (hz : (P.info? T).map (·.zero) = some (some z) := by kernel_rfl) :
    LS P n Φ ops (⟨some d, .alloc T, ty, pos, after, g⟩ :: l) ρ (cls w0 as) := by
  refine ⟨fun a w ha hw => ?_⟩
  unfold wpList
  rw [if_pos (want_spec ha hg)]
  refine .inl ?_
  unfold Oper.wp
  have hr : (execOp a.eval ⟨some d, .alloc T, ty, pos, after, g⟩).run P w = .ok (.value (.pointer (some ⟨w.heap.size, 0, none⟩))) (w.alloc (.cells (cellsL z).toArray T)) := by
    obtain ⟨i, hi, hzz⟩ := Option.map_eq_some_iff.1 hz
    simp only [execOp]
    refine run_next_value ?_
    simp [Instr.alloc, newVar, newRow, cells_cellsL, zeroValue, typeInfo, hi, hzz]
  rw [hr]
  exact (k' w.heap.size).out _ _ (ha.put hd _) (hw.add (Chg.alloc w _) (blk_new w _ T))
/-- a store into a block of the call's own, number i among them -/
theorem Lst (i : Nat) {x y : Operand} {t T : TypeId} {b o : Nat} {cs vs : List Value} {v : Value}
    (k' : LS P n Φ ops l ρ (cls w0 (blk b (splice cs o vs) T :: as'))) (hp : pick i as = some (blk b cs T, as') := by rfl)
    (hg : want ops ρ g = some true := by rfl) (hx : ev ρ x = some (.pointer (some ⟨b, o, none⟩)) := by rfl) (hy : ev ρ y = some v := by rfl) (hv : cellsL v = vs := by rfl)
    (hsz : tySz P t vs.length = true := by kernel_rfl) (h1 : ones vs = true := by rfl) (hl : Nat.ble (o + vs.length) cs.length = true := by rfl) :
    LS P n Φ ops (⟨none, .store t x y, ty, pos, after, g⟩ :: l) ρ (cls w0 as) := by
  refine ls_eff0 hg ?_ k'
  intro a w ha hw
  have hw1 := hw.pick hp
  obtain ⟨F, hF⟩ := hw1.get (.head _)
  refine ⟨_, ?_, hw1.upd (A' := blk b (splice cs o vs) T) (w' := w.setRow b (splice cs o vs).toArray) fun F hF hb => ⟨(chg_setRow _).mono fun k _ hk => (hF.1 k).2 hk, F, ⟨hF.1, setRow_heap w b _ _ T _ hF.2⟩, fun k hk => ⟨.inl hk, ?_⟩⟩⟩
  · simp only [execOp, ha.eval hx, ha.eval hy]
    refine run_next_skip ?_
    have := run_storeVar (P := P) hv hsz h1 hF.2 (Nat.le_of_ble_eq_true hl)
    simp [Instr.storeAt, Instr.sureAddr, this]
  · have := (hb k hk).2
    simpa [World.setRow] using this
/-! a slice literal -/
def slTy (P : Program) (t e sz bytes : Nat) : Bool := match P.underlying t with | some (.slice e') => Nat.beq e' e && (match P.info? e with | some i => Nat.beq i.size sz && Nat.beq i.bytes bytes | none => false) | _ => false
theorem slTy_spec {P : Program} {t e sz bytes : Nat} (h : slTy P t e sz bytes = true) : P.underlying t = some (.slice e) ∧ ∃ i, P.info? e = some i ∧ i.size = sz ∧ i.bytes = bytes := by
  unfold slTy at h
  split at h
  · rename_i e' he
    rw [Bool.and_eq_true] at h
    obtain ⟨h1, h2⟩ := h
    obtain rfl := Nat.eq_of_beq_eq_true h1
    split at h2
    · rename_i i hi
      rw [Bool.and_eq_true] at h2
      exact ⟨he, i, hi, Nat.eq_of_beq_eq_true h2.1, Nat.eq_of_beq_eq_true h2.2⟩
    · cases h2
  · cases h
/-- the parts of a literal, whole and in order -/
def inOrder (sz : Nat) : Nat → List (Nat × Value) → Bool
  | _, [] => true
  | k, (i, v) :: r => Nat.beq i k && Nat.beq (cellsL v).length sz && inOrder sz (k + 1) r
theorem foldl_set (vs : List Value) : ∀ (pre mid post : List Value) (m : Nat), mid.length = vs.length → m = 0 →
    ((vs.zipIdx m).foldl (fun (cs : Array Value) (x : Value × Nat) => cs.setIfInBounds (pre.length + x.2) x.1) (pre ++ mid ++ post).toArray) = (pre ++ vs ++ post).toArray := by
  have key : ∀ (vs mid pre post : List Value) (m : Nat) (L : Nat), mid.length = vs.length → pre.length = L + m →
      ((vs.zipIdx m).foldl (fun (cs : Array Value) (x : Value × Nat) => cs.setIfInBounds (L + x.2) x.1) (pre ++ mid ++ post).toArray) = (pre ++ vs ++ post).toArray := by
    intro vs
    induction vs with
    | nil => intro mid pre post m L h _; have : mid = [] := List.eq_nil_of_length_eq_zero (by simpa using h); subst this; simp
    | cons v vs ih =>
      intro mid pre post m L h hL
      cases mid with
      | nil => simp at h
      | cons u mid =>
        simp only [List.zipIdx_cons, List.foldl_cons]
        have e : (pre ++ (u :: mid) ++ post).toArray.setIfInBounds (L + m) v = ((pre ++ [v]) ++ mid ++ post).toArray := by
          rw [← hL]
          apply Array.ext'
          simp
        rw [e, ih mid (pre ++ [v]) post (m + 1) L (by simpa using h) (by simp; omega)]
        simp
  intro pre mid post m h hm
  subst hm
  exact key vs mid pre post 0 pre.length h (by simp)
theorem fill_inOrder (sz : Nat) : ∀ (ps : List (Nat × Value)) (k : Nat) (pre mid : List Value), inOrder sz k ps = true → pre.length = k * sz → mid.length = ps.length * sz →
    Instr.fill (fun i => some (i * sz, sz)) (pre ++ mid).toArray ps = some (pre ++ ps.flatMap fun p => cellsL p.2).toArray
  | [], k, pre, mid, _, _, hm => by
    have : mid = [] := List.eq_nil_of_length_eq_zero (by simpa using hm)
    subst this; simp [Instr.fill]
  | (i, v) :: r, k, pre, mid, h, hp, hm => by
    simp only [inOrder, Bool.and_eq_true] at h
    obtain ⟨⟨h1, h2⟩, h3⟩ := h
    obtain rfl := Nat.eq_of_beq_eq_true h1
    have h2' : (cellsL v).length = sz := Nat.eq_of_beq_eq_true h2
    have hm' : mid.length = sz + r.length * sz := by rw [hm]; simp [Nat.add_mul, Nat.add_comm]
    obtain ⟨m1, m2, rfl, hm1⟩ : ∃ m1 m2, mid = m1 ++ m2 ∧ m1.length = sz := ⟨mid.take sz, mid.drop sz, by simp, by simp; omega⟩
    have hm2 : m2.length = r.length * sz := by simp at hm'; omega
    unfold Instr.fill
    simp only [cells_cellsL]
    have hs : (cellsL v).toArray.size = sz := by simpa using h2'
    rw [if_neg (by simp [h2', hp, hm1])]
    have hf := foldl_set (cellsL v) pre m1 m2 0 (by rw [hm1, h2']) rfl
    rw [hp] at hf
    have e2 : ((cellsL v).toArray.zipIdx.foldl (fun cs x => cs.setIfInBounds (i * sz + x.2) x.1) (pre ++ (m1 ++ m2)).toArray) = (pre ++ cellsL v ++ m2).toArray := by
      rw [← hf]
      simp
    rw [e2, fill_inOrder sz r (i + 1) (pre ++ cellsL v) m2 h3 (by simp [hp, h2', Nat.add_mul]) hm2]
    simp
def opsV (ρ : Env) : List (Nat × Operand) → Option (List (Nat × Value))
  | [] => some []
  | (i, x) :: r => match ev ρ x, opsV ρ r with
    | some v, some vs => some ((i, v) :: vs)
    | _, _ => none
theorem opsV_map {n : Nat} {a : Act} {ρ : Env} (h : Fits n a ρ) : ∀ {xs : List (Nat × Operand)} {vs : List (Nat × Value)}, opsV ρ xs = some vs → xs.map (fun p => (p.1, a.eval p.2)) = vs
  | [], _, hx => by simp [opsV] at hx; simp [hx]
  | (i, x) :: xs, vs, hx => by
    simp only [opsV] at hx
    split at hx
    · rename_i v us h1 h2
      simp only [Option.some.injEq] at hx
      subst hx
      simp [h.eval h1, opsV_map h h2]
    · cases hx
theorem row_new (w : World) (cs : List Value) (T sz m : Nat) (hm : m ≤ maxLen) (hs : cs.length = m * sz) :
    SL w.heap.size (w.alloc (.cells cs.toArray T)) [row (.slice (some ⟨w.heap.size, 0, none⟩) m m) T sz cs] (fun k => k = w.heap.size) :=
  SL.one ⟨fun k => by simp [Value.ownBlock, eq_comm], m, by
    have := World.ownsRow_lit (e := T) (size := sz) (base := 0) w cs.toArray m (Nat.zero_le _) hm (by simpa using hs)
    simpa using this⟩ fun b hb => by subst hb; exact ⟨Nat.le_refl _, by simp⟩
/-- a slice literal -/
theorem Lsl (sz e bytes : Nat) {t len : Nat} {parts : List (Nat × Operand)} {ps : List (Nat × Value)}
    (k' : ∀ b, LS P n Φ ops l ((d, .slice (some ⟨b, 0, none⟩) len len) :: ρ) (cls w0 (row (.slice (some ⟨b, 0, none⟩) len len) e sz (ps.flatMap fun p => cellsL p.2) :: as)))
    (hg : want ops ρ g = some true := by rfl) (hd : Nat.blt d n = true := by rfl) (hv : opsV ρ parts = some ps := by rfl) (ho : inOrder sz 0 ps = true := by rfl) (hl : Nat.beq ps.length len = true := by rfl)
    (ht : slTy P t e sz bytes = true := by kernel_rfl) (hz : (match P.info? e with | some i => (match i.zero with | some z => Nat.beq (cellsL z).length sz | none => false) | none => false) = true := by kernel_rfl)
    (hs0 : Nat.blt 0 sz = true := by rfl) (hsm : Nat.ble (len * sz) 16777216 = true := by rfl) :
    LS P n Φ ops (⟨some d, .buildSlice t len parts.toArray, ty, pos, after, g⟩ :: l) ρ (cls w0 as) := by
  have hsz : 0 < sz := Nat.le_of_ble_eq_true hs0
  have hsm' := Nat.le_of_ble_eq_true hsm
  obtain rfl := Nat.eq_of_beq_eq_true hl
  obtain ⟨hu, i, hi, hisz, hib⟩ := slTy_spec ht
  refine ⟨fun a w ha hw => ?_⟩
  unfold wpList
  rw [if_pos (want_spec ha hg)]
  refine .inl ?_
  unfold Oper.wp
  have hcl : (ps.flatMap fun p => cellsL p.2).length = ps.length * sz := by
    have key : ∀ (ps : List (Nat × Value)) (k : Nat), inOrder sz k ps = true → (ps.flatMap fun p => cellsL p.2).length = ps.length * sz := by
      intro ps
      induction ps with
      | nil => intro _ _; simp
      | cons p ps ih =>
        intro k h
        obtain ⟨i, v⟩ := p
        simp only [inOrder, Bool.and_eq_true] at h
        have h2 := Nat.eq_of_beq_eq_true h.1.2
        simp [ih (k + 1) h.2, h2, Nat.add_mul, Nat.add_comm]
    exact key ps 0 ho
  have hr : (execOp a.eval ⟨some d, .buildSlice t ps.length parts.toArray, ty, pos, after, g⟩).run P w = .ok (.value (.slice (some ⟨w.heap.size, 0, none⟩) ps.length ps.length)) (w.alloc (.cells (ps.flatMap fun p => cellsL p.2).toArray e)) := by
    rw [hi] at hz
    dsimp only at hz
    cases hzz : i.zero with
    | none => rw [hzz] at hz; cases hz
    | some z =>
      rw [hzz] at hz
      have hz' : (cellsL z).length = sz := Nat.eq_of_beq_eq_true hz
      simp only [execOp, List.map_toArray, opsV_map ha hv]
      refine run_next_value ?_
      by_cases h0 : ps.length = 0
      · have : ps = [] := List.eq_nil_of_length_eq_zero h0
        subst this
        simp [Instr.buildSlice, run_underlying hu, sizeOf, typeInfo, hi, Instr.fill, newRow]
        congr 2
        exact Array.eq_empty_of_size_eq_zero (by simp)
      · have hf := fill_inOrder sz ps 0 [] ((Array.range (ps.length * sz)).map (fun j => (cellsL z).toArray[j % (cellsL z).toArray.size]!)).toList ho (by simp) (by simp)
        simp only [List.nil_append] at hf
        have h1 : ¬ (ps.length * sz = 0) := by
          intro h; rcases Nat.mul_eq_zero.1 h with h | h <;> omega
        have h2 : ¬ (ps.length * sz > 2 ^ 24) := by have : (2:Nat) ^ 24 = 16777216 := by decide
                                                    omega
        simp only [Array.toArray_toList] at hf
        simp [Instr.buildSlice, run_underlying hu, sizeOf, typeInfo, hi, hisz, h1, zeroValue, hzz, cells_cellsL, newRow]
        have hf' : Instr.fill (fun i => some (i * sz, sz)) (Array.map (fun x => (cellsL z)[x % (cellsL z).length]?.getD default) (Array.range (ps.length * sz))) ps = some (List.flatMap (fun p => cellsL p.snd) ps).toArray := by simpa using hf
        rw [if_neg (by omega), hf']
        simp
  rw [hr]
  refine (k' w.heap.size).out _ _ (ha.put hd _) (hw.add (Chg.alloc w _) (row_new w _ e sz ps.length ?_ hcl))
  simp only [maxLen]
  have := Nat.le_mul_of_pos_right ps.length hsz
  omega
theorem row_slice {A : Option Addr} {m c T sz : Nat} {xs : List Value} {w : World} {F : Nat → Prop} (h : (row (.slice A m c) T sz xs).holds w F) : w.ownsRow 0 T sz (.slice A m c) m xs := by
  obtain ⟨_, k, hk⟩ := h
  have : k = m := by
    rcases hk.2 with ⟨h1, h2⟩ | ⟨g, cap, cur, h1, _⟩ <;> injection h1 <;> omega
  exact this ▸ hk
/-- the cells of a slice that is handed to append -/
def Src (w : World) (B : Option Addr) (m sz : Nat) (news : List Value) : Prop := news.length = m * sz ∧ ∀ j u, news[j]? = some u → ∃ ad, B = some ad ∧ w.cell? (ad.add j) = some u
theorem row_src {A : Option Addr} {m c T sz : Nat} {xs : List Value} {w : World} {F : Nat → Prop} (h : (row (.slice A m c) T sz xs).holds w F) : Src w A m sz xs := by
  have hr := row_slice h
  refine ⟨hr.1, fun j u hj => ?_⟩
  rcases hr.2 with ⟨h1, h2⟩ | ⟨g, cap, cur, h1, _⟩
  · have hx : xs = [] := List.eq_nil_of_length_eq_zero (by rw [hr.1, h2]; simp)
    subst hx; simp at hj
  · injection h1 with h1 h2 h3
    subst h1
    exact ⟨_, rfl, hr.cells (g := g) rfl j u hj⟩
theorem flatMap_split {α : Type} (e : Enc α) : ∀ (l : List α) (j : Nat), j < (l.flatMap e.cells).length → ∃ i, ∃ h : i < l.length, ∃ r, r < e.sz ∧ j = i * e.sz + r
  | [], j, h => by simp at h
  | x :: l, j, h => by
    rcases Nat.lt_or_ge j e.sz with hj | hj
    · exact ⟨0, by simp, j, hj, by simp⟩
    · have hl : (e.cells x).length = e.sz := e.len x
      obtain ⟨i, hi, r, hr, he⟩ := flatMap_split e l (j - e.sz) (by rw [List.flatMap_cons, List.length_append] at h; omega)
      exact ⟨i + 1, by simpa using hi, r, hr, by rw [Nat.add_mul]; omega⟩
theorem flatMap_len {α : Type} (e : Enc α) : ∀ (l : List α), (l.flatMap e.cells).length = l.length * e.sz
  | [] => by simp
  | x :: l => by rw [List.flatMap_cons, List.length_append, flatMap_len e l, e.len, List.length_cons, Nat.add_mul]; omega
theorem rd_src {α : Type} {e : Enc α} {A : Option Addr} {l : List α} {w : World} (h : RdA (Kd.of e) w A l) : Src w A l.length e.sz (l.flatMap e.cells) := by
  refine ⟨flatMap_len e l, fun j u hj => ?_⟩
  obtain ⟨i, hi, r, hr, rfl⟩ := flatMap_split e l j (List.getElem?_eq_some_iff.1 hj).1
  obtain ⟨ad, hA, cs, hcs, hc⟩ := h i hi
  refine ⟨ad, hA, hc r u ?_⟩
  rw [hcs, ← flatMap_at e l i hi r hr]; exact hj
theorem Src.mono {w w' : World} {B : Option Addr} {m sz : Nat} {news : List Value} (h : Src w B m sz news) (e : Ext w w') : Src w' B m sz news := ⟨h.1, fun j u hj => let ⟨ad, h1, h2⟩ := h.2 j u hj; ⟨ad, h1, e.cell h2⟩⟩
/-- append onto a slice of the call's own, number i among them -/
theorem Lap (i : Nat) {s x : Operand} {t e sz bytes m m' c c' : Nat} {A B : Option Addr} {xs news : List Value}
    (hsrc : ∀ w, cls w0 as w → Src w B m' sz news) (hb : (xs.length + news.length) * bytes ≤ 140737488355328) (h1 : ∀ u ∈ news, u.oneCell' = true)
    (k' : ∀ A' c'', LS P n Φ ops l ((d, .slice A' (m + m') c'') :: ρ) (cls w0 (row (.slice A' (m + m') c'') e sz (xs ++ news) :: as')))
    (hp : pick i as = some (row (.slice A m c) e sz xs, as') := by rfl)
    (hg : want ops ρ g = some true := by rfl) (hd : Nat.blt d n = true := by rfl) (hs : ev ρ s = some (.slice A m c) := by rfl) (hx : ev ρ x = some (.slice B m' c') := by rfl)
    (ht : slTy P t e sz bytes = true := by kernel_rfl) (hz : (match P.info? e with | some i => (match i.zero with | some z => Nat.beq (cellsL z).length sz | none => false) | none => false) = true := by kernel_rfl)
    (hs0 : Nat.blt 0 sz = true := by rfl) (hb0 : Nat.blt 0 bytes = true := by rfl) :
    LS P n Φ ops (⟨some d, .call { callee := .builtin .append, args := #[s, x], argTypes := #[t, t] }, ty, pos, after, g⟩ :: l) ρ (cls w0 as) := by
  have hsz : 0 < sz := Nat.le_of_ble_eq_true hs0
  have hby : 0 < bytes := Nat.le_of_ble_eq_true hb0
  obtain ⟨hu, inf, hi, hisz, hib⟩ := slTy_spec ht
  rw [hi] at hz
  dsimp only at hz
  cases hzz : inf.zero with
  | none => rw [hzz] at hz; cases hz
  | some z =>
    rw [hzz] at hz
    have hz' : (cellsL z).length = sz := Nat.eq_of_beq_eq_true hz
    refine ⟨fun a w ha hw => ?_⟩
    unfold wpList
    rw [if_pos (want_spec ha hg)]
    refine .inl ?_
    have hw1 := hw.pick hp
    obtain ⟨F, hF⟩ := hw1.get (.head _)
    have hown := row_slice hF
    obtain ⟨hl, hcs⟩ := hsrc w hw
    have hlens : xs.length = m * sz := hown.1
    have hmm : m ≤ xs.length := by rw [hlens]; exact Nat.le_mul_of_pos_right _ hsz
    have hmm' : m' ≤ news.length := by rw [hl]; exact Nat.le_mul_of_pos_right _ hsz
    have hbb : (m + m') * bytes ≤ 140737488355328 := Nat.le_trans (Nat.mul_le_mul_right _ (by omega)) hb
    have h63 : m + m' ≤ maxLen := by
      have := Nat.le_mul_of_pos_right (m + m') hby
      simp only [maxLen]; omega
    -- where the source is nil there is nothing to read
    have key : ∃ v' w', (Builtin.append_ #[t, t] ty #[.slice A m c, .slice B m' c']).run P w = .ok v' w' ∧ w'.ownsRow 0 e sz v' (m + m') (xs ++ news) ∧ w.grownBy w' (Value.ownBlock (.slice A m c)) ∧ (∃ A' c'', v' = .slice A' (m + m') c'') ∧ (∀ k, v'.ownBlock = some k → (Value.ownBlock (.slice A m c) = some k ∨ w.heap.size ≤ k) ∧ k < w'.heap.size) := by
      cases B with
      | none =>
        have hn : news = [] := by
          cases news with
          | nil => rfl
          | cons u us => obtain ⟨ad, h, _⟩ := hcs 0 u rfl; cases h
        subst hn
        have hm0 : m' = 0 := by
          rcases Nat.eq_zero_or_pos m' with h | h
          · exact h
          · have := Nat.le_mul_of_pos_right m' hsz; simp at hl; omega
        subst hm0
        refine ⟨.slice A m c, w, ?_, by simpa using hown, ⟨rfl, rfl, rfl, Nat.le_refl _, fun _ _ _ => rfl⟩, ⟨A, c, rfl⟩, fun k hk => ⟨.inl hk, (hown.lt k hk).2⟩⟩
        rcases hown.2 with ⟨h1, h2⟩ | ⟨g, cap, cur, h1, _, _, hnc, _⟩
        · injection h1 with h1 h3 h4
          subst h1 h3 h4
          simp [Builtin.append_, run_underlying hu, sizeOf, typeInfo, hi, Builtin.lenOf, Builtin.firstCells]
        · injection h1 with h1 h3 h4
          subst h1 h4
          simp [Builtin.append_, run_underlying hu, sizeOf, typeInfo, hi, Builtin.lenOf, Builtin.firstCells, hnc, storeCells]
      | some b =>
        obtain ⟨v', w', h6, h7, h8, _, h9⟩ := run_append_own_at (P := P) w 0 t ty e inf z sz bytes hu hi hzz hisz hib (by rw [cells_cellsL]; simpa using hz') hsz _ m xs hown b m' c' news hl
          (fun j u hj => by obtain ⟨ad, h, hc⟩ := hcs j u hj; injection h with h; exact h ▸ hc) h1 h63 hbb (Nat.zero_le _)
        refine ⟨v', w', h6, h7, h8, ?_, fun k hk => ⟨?_, (h7.lt k hk).2⟩⟩
        · rcases h7.2 with ⟨e1, e2⟩ | ⟨g, cap, cur, e1, _⟩
          · exact ⟨none, 0, by rw [e1, e2]⟩
          · exact ⟨_, cap, e1⟩
        · rcases h9 with h9 | h9
          · exact .inl (h9 ▸ hk)
          · rw [h9] at hk; injection hk with hk; exact .inr (by omega)
    obtain ⟨v', w', hr, h2, h3, ⟨A', c'', rfl⟩, h5⟩ := key
    unfold Oper.wp execOp
    simp only [resolve, invoke, builtin, Sem.run_bind, Sem.run_pure, Result.andThen_ok, List.map_toArray, List.map_cons, List.map_nil, ha.eval hs, ha.eval hx, hr]
    refine (k' A' c'').out _ _ (ha.put hd _) (hw1.upd (A' := row (.slice A' (m + m') c'') e sz (xs ++ news)) (w' := w') fun F hF hb => ⟨?_, fun k => Value.ownBlock (.slice A' (m + m') c'') = some k, ⟨fun _ => Iff.rfl, m + m', h2⟩, fun k hk => ?_⟩)
    · exact (Chg.of_grown h3).mono fun k _ hk => (hF.1 k).2 hk.symm
    · obtain ⟨h6, h7⟩ := h5 k hk
      exact ⟨h6.imp (fun h => (hF.1 k).2 h) id, h7⟩
theorem made_cells {α : Type} (e : Enc α) (x : α) (m : Nat) : (madeCells (e.cells x).toArray (m * e.sz)).toList = (List.replicate m x).flatMap e.cells := by
  apply List.ext_getElem?
  intro j
  have hp := e.pos
  rcases Nat.lt_or_ge j (m * e.sz) with h | h
  · have h2 : j / e.sz < m := (Nat.div_lt_iff_lt_mul hp).2 h
    have h3 : j % e.sz < e.sz := Nat.mod_lt _ hp
    have := flatMap_at e (List.replicate m x) (j / e.sz) (by simpa using h2) (j % e.sz) h3
    rw [show j / e.sz * e.sz + j % e.sz = j from by rw [Nat.mul_comm]; exact Nat.div_add_mod j e.sz] at this
    rw [this]
    simp [madeCells, h, e.len]
    rw [List.getElem?_eq_getElem (by rw [e.len]; exact h3)]
    rfl
  · rw [List.getElem?_eq_none (by simp [madeCells]; exact h), List.getElem?_eq_none (by rw [flatMap_len]; simpa using h)]
/-- make, of plain data -/
theorem Lmk {α : Type} (E : Enc α) (e bytes : Nat) {t : Nat} {x y : Operand} {kl kc : IntKind} {m : Int}
    (hm0 : 0 ≤ m) (hmb : bytes * m ≤ 281474976710656)
    (k' : ∀ b, LS P n Φ ops l ((d, .slice (some ⟨b, 0, none⟩) m.toNat m.toNat) :: ρ) (cls w0 (rowE E (some ⟨b, 0, none⟩) m.toNat e (List.replicate m.toNat E.zero) :: as)))
    (hg : want ops ρ g = some true := by rfl) (hd : Nat.blt d n = true := by rfl) (hx : ev ρ x = some (.int kl m) := by rfl) (hy : ev ρ y = some (.int kc m) := by rfl)
    (ht : slTy P t e E.sz bytes = true := by kernel_rfl) (hz : (P.info? e).map (fun i => i.zero.map cellsL) = some (some (E.cells E.zero)) := by kernel_rfl) (hb0 : Nat.blt 0 bytes = true := by rfl) :
    LS P n Φ ops (⟨some d, .makeSlice t x y, ty, pos, after, g⟩ :: l) ρ (cls w0 as) := by
  have hby : 0 < bytes := Nat.le_of_ble_eq_true hb0
  obtain ⟨hu, inf, hi, hisz, hib⟩ := slTy_spec ht
  obtain ⟨q, rfl⟩ := Int.eq_ofNat_of_zero_le hm0
  simp only [Int.toNat_natCast] at k'
  have hq : bytes * q ≤ 281474976710656 := by
    have h : ((bytes * q : Nat) : Int) ≤ 281474976710656 := by rw [Int.natCast_mul]; exact hmb
    omega
  have hq2 : q ≤ 9223372036854775807 := by
    have := Nat.le_mul_of_pos_left q hby
    omega
  rw [hi] at hz
  simp only [Option.map_some, Option.some.injEq] at hz
  obtain ⟨z, hzz, hzc⟩ := Option.map_eq_some_iff.1 hz
  refine ⟨fun a w ha hw => ?_⟩
  unfold wpList
  rw [if_pos (want_spec ha hg)]
  refine .inl ?_
  unfold Oper.wp
  have hr := run_make (P := P) w t e inf z hu hi hzz kl kc (q : Int) (q : Int) (by omega) (Int.le_refl _) (by rw [hib]; exact hmb) (by omega)
  have hr' : (execOp a.eval ⟨some d, .makeSlice t x y, ty, pos, after, g⟩).run P w = .ok (.value (.slice (some ⟨w.heap.size, 0, none⟩) q q)) (w.alloc (.cells ((List.replicate q E.zero).flatMap E.cells).toArray e)) := by
    simp only [execOp, ha.eval hx, ha.eval hy]
    refine run_next_value ?_
    rw [hr]
    simp only [Int.toNat_natCast, hisz, cells_cellsL, hzc]
    congr 3
    rw [← made_cells]
  rw [hr']
  have hnew : SL w.heap.size (w.alloc (.cells ((List.replicate q E.zero).flatMap E.cells).toArray e)) [rowE E (some ⟨w.heap.size, 0, none⟩) q e (List.replicate q E.zero)] (fun k => k = w.heap.size) := by
    have := row_new w ((List.replicate q E.zero).flatMap E.cells) e E.sz q (by simp only [maxLen]; omega) (by rw [flatMap_len]; simp)
    simpa [rowE] using this
  exact (k' w.heap.size).out _ _ (ha.put hd _) (hw.add (Chg.alloc w _) hnew)
theorem splice_set {α : Type} (e : Enc α) : ∀ (l : List α) (i : Nat) (x : α), i < l.length → splice (l.flatMap e.cells) (i * e.sz) (e.cells x) = (l.set i x).flatMap e.cells
  | [], _, _, h => by simp at h
  | y :: l, 0, x, _ => by simp [splice, e.len]
  | y :: l, i + 1, x, h => by
    have := splice_set e l i x (by simpa using h)
    have h1 : (e.cells y).length = e.sz := e.len y
    simp only [splice] at this ⊢
    rw [List.flatMap_cons, List.set_cons_succ, List.flatMap_cons, ← this, Nat.add_mul, Nat.one_mul, List.take_append, List.drop_append, h1]
    rw [List.take_of_length_le (by omega), List.drop_of_length_le (by rw [h1]; omega)]
    rw [show i * e.sz + e.sz - e.sz = i * e.sz from by omega, show i * e.sz + e.sz + (e.cells x).length - e.sz = i * e.sz + (e.cells x).length from by omega]
    simp
theorem take_splice (cs : List Value) (o N : Nat) (vs : List Value) (h1 : o + vs.length ≤ N) (h2 : N ≤ cs.length) : (splice cs o vs).take N = splice (cs.take N) o vs := by
  apply List.ext_getElem?
  intro j
  simp only [splice, List.getElem?_take, List.getElem?_append, List.getElem?_drop, List.length_take, List.length_append]
  repeat' split
  all_goals (first | rfl | (exfalso; omega) | (congr 1; omega) | (symm; apply List.getElem?_eq_none; omega) | (apply List.getElem?_eq_none; omega) | skip)
/-- an element of a slice of the call's own, stored -/
theorem Lse {α : Type} (i : Nat) (E : Enc α) (u : α) {x y : Operand} {t T : TypeId} {A : Option Addr} {c : Nat} {xs : List α} {j : Int} {v : Value}
    (k' : LS P n Φ ops l ρ (cls w0 (rowE E A c T (xs.set j.toNat u) :: as'))) (hp : pick i as = some (rowE E A c T xs, as') := by rfl)
    (hg : want ops ρ g = some true := by rfl) (hx : ev ρ x = some (elemPtr A (j.toNat * E.sz)) := by rfl) (hy : ev ρ y = some v := by rfl) (hv : cellsL v = E.cells u := by rfl)
    (hsz : tySz P t E.sz = true := by kernel_rfl) (h0 : 0 ≤ j := by omega) (h1 : j < xs.length := by omega) :
    LS P n Φ ops (⟨none, .store t x y, ty, pos, after, g⟩ :: l) ρ (cls w0 as) := by
  have hj : j.toNat < xs.length := by omega
  refine ls_eff0 hg ?_ k'
  intro a w ha hw
  have hw1 := hw.pick hp
  obtain ⟨F, hF⟩ := hw1.get (.head _)
  have hown := row_slice hF
  rcases hown.2 with ⟨e1, e2⟩ | ⟨gb, cap, cur, e1, hb, hg', hnc, hcm, hcs, htk⟩
  · omega
  · injection e1 with e1 _ e3
    subst e1 e3
    have hne : j.toNat * E.sz + E.sz ≤ xs.length * E.sz := by
      have := Nat.mul_le_mul_right E.sz (show j.toNat + 1 ≤ xs.length from hj)
      rw [Nat.add_mul] at this; omega
    have hfit : j.toNat * E.sz + (E.cells u).length ≤ cur.toList.length := by
      have := Nat.mul_le_mul_right E.sz hnc
      rw [E.len]; simp; omega
    have hst := run_storeVar (P := P) (w := w) (b := gb) (o := j.toNat * E.sz) (cs := cur.toList) (T := T) (t := t) (v := v) (vs := E.cells u) hv (by rw [E.len]; exact hsz)
      (by
        have key : ∀ l : List Value, (∀ q ∈ l, q.oneCell' = true) → ones l = true := by
          intro l; induction l with
          | nil => intro _; rfl
          | cons q l ih => intro hh; simp only [ones, Bool.and_eq_true]; exact ⟨hh q (by simp), ih fun p hp => hh p (by simp [hp])⟩
        exact key _ (E.one u)) (by simpa using hg') hfit
    have hlt : gb < w.heap.size := (Array.getElem?_eq_some_iff.1 hg').1
    refine ⟨_, ?_, hw1.upd (A' := rowE E (some ⟨gb, 0, none⟩) c T (xs.set j.toNat u)) (w' := w.setRow gb (splice cur.toList (j.toNat * E.sz) (E.cells u)).toArray) fun F hF hbd => ⟨(chg_setRow _).mono fun k _ hk => (hF.1 k).2 (by simp [Value.ownBlock, hk]), F, ⟨by simpa [rowE] using hF.1, xs.length, ?_⟩, fun k hk => ⟨.inl hk, by have := (hbd k hk).2; simpa [World.setRow] using this⟩⟩⟩
    · simp only [execOp, ha.eval hx, ha.eval hy]
      refine run_next_skip ?_
      have e4 : (⟨gb, 0, none⟩ : Addr).add (j.toNat * E.sz) = ⟨gb, j.toNat * E.sz, none⟩ := by unfold Addr.add; split <;> simp_all
      simp [elemPtr, Instr.storeAt, Instr.sureAddr, e4, hst]
    · refine ⟨by rw [flatMap_len]; simp, .inr ⟨gb, c, _, by simp, hb, setRow_heap w gb cur _ T _ hg', hnc, hcm, ?_, ?_⟩⟩
      · simp only [splice, List.size_toArray, List.length_append, List.length_take, List.length_drop]
        have hcl : cur.toList.length = c * E.sz := by simpa using hcs
        rw [E.len] at hfit ⊢
        omega
      · rw [← splice_set E xs j.toNat u hj, ← htk]
        have hm := Nat.mul_le_mul_right E.sz hnc
        have hcl : cur.toList.length = c * E.sz := by simpa using hcs
        have := take_splice cur.toList (j.toNat * E.sz) (xs.length * E.sz) (E.cells u) (by rw [E.len]; exact hne) (by omega)
        simpa using this
end
end Go.G
