import Derived.Test.YtcjokckidpophaaGRow
set_option linter.all false
namespace Go.G
open Go.RowKit
/-! ### Calls that turn what the caller has made -/
/-- The call ends with a result that S admits, the caller's other own memory as it was. -/
def RetC (P : Program) (f : FuncId) (args : List Value) (w0 : World) (as : List Asn) (w : World) (S : Value → List Asn → Prop) : Prop :=
  Calls P f args.toArray w fun e w' => ∃ v new, e = .returned v ∧ S v new ∧ cls w0 (new ++ as) w'
theorem Ret.c {P : Program} {f : FuncId} {args : List Value} {w0 w : World} {as : List Asn} {S : Value → List Asn → Prop} (h : Ret P f args w S) (hw : cls w0 as w) : RetC P f args w0 as w S :=
  h.mono fun e w' ⟨v, new, G, he, hS, hx, hsl⟩ => ⟨v, new, he, hS, hw.add hx hsl⟩
theorem Ret.mono {P : Program} {f : FuncId} {args : List Value} {w : World} {S S' : Value → List Asn → Prop} (h : Ret P f args w S) (hS : ∀ v new, S v new → S' v new) : Ret P f args w S' :=
  Calls.mono h fun e w' ⟨v, new, G, he, h1, h2⟩ => ⟨v, new, G, he, hS _ _ h1, h2⟩
theorem RetV.ret {P : Program} {f : FuncId} {args : List Value} {w : World} {v : Value} (h : RetV P f args w v) : Ret P f args w (fun u new => u = v ∧ new = []) :=
  h.mono fun e w' ⟨he, hx⟩ => ⟨v, [], fun _ => False, he, ⟨rfl, rfl⟩, hx, fun _ h => h⟩
theorem enterC {P : Program} {f : FuncId} {fn : Func} {c : Code} {n : Nat} {args : List Value} {w w0 : World} {as : List Asn} {R : Ending → World → Prop} (hf : P.funcs[f]? = some fn) (hb : fn.body = some c) (hn : fn.ntmps = n) (hl : Nat.ble args.length n = true)
    (hw : cls w0 as w) (h : Go P f n R [.code c] (argEnv 0 args) (cls w0 as)) : Calls P f args.toArray w R :=
  calls_of_go hf hb hn (Nat.le_of_ble_eq_true hl) (fun t v hl => by simpa using (argEnv_lk args 0 t v hl).2) hw h
section
variable {P : Program} {f : FuncId} {n : Nat} {R : Ending → World → Prop} {k : List Item} {Φ : Env → (World → Prop) → Prop} {ops l : List Oper} {ρ : Env} {w0 : World} {as as' : List Asn}
  {d : Nat} {ty : TypeId} {pos : String} {after : Array Edge} {g : Option (Nat × Bool)}
/-- a call that takes the objects 'pre' of the call's own -/
theorem Lm (pre as' : List Asn) {x : Operand} {xs : List Operand} {ts : Array TypeId} {F : FuncId} {first caps : Array Value} {vs args : List Value} {S : Value → List Asn → Prop} (hg : want ops ρ g = some true := by rfl) (hd : Nat.blt d n = true := by rfl)
    (hx : ev ρ x = some (.func (.func F) first caps) := by rfl) (hv : evs ρ xs = some vs := by rfl) (hargs : first.toList ++ vs ++ caps.toList = args := by rfl) (hf : canEnter P F = true := by kernel_rfl)
    (hp : as.Perm (pre ++ as') := by exact List.Perm.refl _)
    (h : ∀ w, cls w0 (pre ++ as') w → RetC P F args w0 as' w S)
    (k' : ∀ v new, S v new → LS P n Φ ops l ((d, v) :: ρ) (cls w0 (new ++ as'))) :
    LS P n Φ ops (⟨some d, .call { callee := .value x, args := xs.toArray, argTypes := ts }, ty, pos, after, g⟩ :: l) ρ (cls w0 as) := by
  refine ⟨fun a w ha hw => ?_⟩
  unfold wpList
  rw [if_pos (want_spec ha hg)]
  refine .inl ?_
  unfold Oper.wp
  rw [call_run ha hx hv hf w, hargs]
  refine (h w (hw.perm hp)).mono fun e w' hh => ?_
  obtain ⟨v, new, rfl, hS, hc⟩ := hh
  exact (k' v new hS).out _ w' (ha.put hd v) hc
/-- a call that makes its result -/
theorem Lr {x : Operand} {xs : List Operand} {ts : Array TypeId} {F : FuncId} {first caps : Array Value} {vs args : List Value} {S : Value → List Asn → Prop} (hg : want ops ρ g = some true := by rfl) (hd : Nat.blt d n = true := by rfl)
    (hx : ev ρ x = some (.func (.func F) first caps) := by rfl) (hv : evs ρ xs = some vs := by rfl) (hargs : first.toList ++ vs ++ caps.toList = args := by rfl) (hf : canEnter P F = true := by kernel_rfl)
    (h : ∀ w, cls w0 as w → Ret P F args w S)
    (k' : ∀ v new, S v new → LS P n Φ ops l ((d, v) :: ρ) (cls w0 (new ++ as))) :
    LS P n Φ ops (⟨some d, .call { callee := .value x, args := xs.toArray, argTypes := ts }, ty, pos, after, g⟩ :: l) ρ (cls w0 as) := ls_call hg hd hx hv hargs hf h k'
end
section
variable {P : Program} {n : Nat} {k : List Item} {ρ : Env} {w0 : World} {as : List Asn}
theorem g_c1 {f' : FuncId} {fn : Func} {t : Tmp} {u : Value} {as1 : List Asn} (new : List Asn) {S : Value → List Asn → Prop} (hf : P.funcs[f']? = some fn) (h : S u new) (hs : ∀ w, cls w0 as1 w → cls w0 (new ++ as) w := by exact fun _ h => h)
    (hr : fn.results = #[.tmp t] := by rfl) (hv : lk ρ t = some u := by rfl) :
    Go P f' n (fun e w' => ∃ v new, e = .returned v ∧ S v new ∧ cls w0 (new ++ as) w') (.code .ret :: k) ρ (cls w0 as1) :=
  g_ret (rs := [.tmp t]) (vs := [u]) hf hr (by simp) (by simp [resV, hv]) fun w hw => ⟨_, new, rfl, h, hs w hw⟩
theorem g_c0 {f' : FuncId} {fn : Func} {as1 : List Asn} (new : List Asn) {S : Value → List Asn → Prop} (hf : P.funcs[f']? = some fn) (h : S (.tuple #[]) new) (hs : ∀ w, cls w0 as1 w → cls w0 (new ++ as) w := by exact fun _ h => h)
    (hr : fn.results = #[] := by rfl) :
    Go P f' n (fun e w' => ∃ v new, e = .returned v ∧ S v new ∧ cls w0 (new ++ as) w') (.code .ret :: k) ρ (cls w0 as1) :=
  g_ret (rs := []) (vs := []) hf hr (by simp) (by simp [resV]) fun w hw => ⟨_, new, rfl, h, hs w hw⟩
theorem g_c0e {f' : FuncId} {fn : Func} {as1 : List Asn} (new : List Asn) {S : Value → List Asn → Prop} (hf : P.funcs[f']? = some fn) (h : S (.tuple #[]) new) (hs : ∀ w, cls w0 as1 w → cls w0 (new ++ as) w := by exact fun _ h => h)
    (hr : fn.results = #[] := by rfl) :
    Go P f' n (fun e w' => ∃ v new, e = .returned v ∧ S v new ∧ cls w0 (new ++ as) w') [] ρ (cls w0 as1) :=
  g_end (rs := []) (vs := []) hf hr (by simp) (by simp [resV]) fun w hw => ⟨_, new, rfl, h, hs w hw⟩
end
/-! ### Parts of slices -/
def pAdd (A : Option Addr) (c l sz : Nat) : Option Addr := if c = l then A else A.map fun a => a.add (l * sz)
theorem RdA.take {α : Type} {k : Kd α} {w : World} {A : Option Addr} {xs : List α} (h : RdA k w A xs) (m : Nat) : RdA k w A (xs.take m) := fun i hi => by
  rw [List.length_take] at hi
  have := h i (by omega)
  simpa using this
theorem add_add (a : Addr) (i j : Nat) : (a.add i).add j = a.add (i + j) := by
  unfold Addr.add
  split <;> split <;> simp_all <;> omega
theorem RdA.drop {α : Type} {k : Kd α} {w : World} {A : Option Addr} {xs : List α} (h : RdA k w A xs) {c : Nat} (hc : xs.length ≤ c) (m : Nat) : RdA k w (pAdd A c m k.sz) (xs.drop m) := fun i hi => by
  rw [List.length_drop] at hi
  obtain ⟨ad, rfl, cs, hr, hcl⟩ := h (m + i) (by omega)
  unfold pAdd
  rw [if_neg (by omega)]
  refine ⟨_, rfl, cs, by simpa using hr, fun j u hj => ?_⟩
  rw [add_add, show m * k.sz + (i * k.sz + j) = (m + i) * k.sz + j from by rw [Nat.add_mul]; omega]
  exact hcl j u hj
section
variable {P : Program} {n : Nat} {C : World → Prop} {ρ : Env} {d : Option Tmp} {ty : TypeId} {pos : String} {after : Array Edge} {g : Option (Nat × Bool)} {w0 : World} {as : List Asn}
theorem isSl_sz {P : Program} {t : TypeId} {sz : Nat} (h : slSz P t sz = true) : ∃ e i, P.underlying t = some (.slice e) ∧ P.info? e = some i ∧ i.size = sz := slSz_spec h
theorem run_sliceBound {P : Program} {w : World} {kd : IntKind} {i : Int} {y : Nat} {code : BoundsCode} (h0 : 0 ≤ i) (h1 : i ≤ y) : (Instr.sliceBound (.int kd i) y code).run P w = .ok i.toNat w := by
  simp [Instr.sliceBound, asIntOf, h0, h1]
theorem q_slT (sz : Nat) {x hi : Operand} {t : TypeId} {A : Option Addr} {m c : Nat} {kd : IntKind} {h : Int} (hx : ev ρ x = some (.slice A m c)) (hh : ev ρ hi = some (.int kd h)) (ht : slSz P t sz = true) (h0 : 0 ≤ h) (h1 : h ≤ c) :
    Q1 P n C ⟨d, .slice t x none (some hi) none, ty, pos, after, g⟩ ρ (.slice A h.toNat c) :=
  q1_of_run fun a ha w hw => by
    obtain ⟨e, inf, he, hinf, hsz⟩ := slSz_spec ht
    simp only [execOp, ha.eval hx, ha.eval hh, Option.map_some, Option.map_none]
    refine run_next_value ?_
    have e0 : ∀ a : Addr, a.add 0 = a := fun a => by simp [Addr.add]
    simp [Instr.sliceAt, run_underlying he, Instr.slice, Instr.sliceBounds, run_sliceBound h0 h1, sizeOf, typeInfo, hinf, e0]
theorem q_slD (sz : Nat) {x lo : Operand} {t : TypeId} {A : Option Addr} {m c : Nat} {kd : IntKind} {h : Int} (hx : ev ρ x = some (.slice A m c)) (hh : ev ρ lo = some (.int kd h)) (ht : slSz P t sz = true) (h0 : 0 ≤ h) (h1 : h ≤ m) :
    Q1 P n C ⟨d, .slice t x (some lo) none none, ty, pos, after, g⟩ ρ (.slice (pAdd A c h.toNat sz) (m - h.toNat) (c - h.toNat)) :=
  q1_of_run fun a ha w hw => by
    obtain ⟨e, inf, he, hinf, hsz⟩ := slSz_spec ht
    simp only [execOp, ha.eval hx, ha.eval hh, Option.map_some, Option.map_none]
    refine run_next_value ?_
    simp [Instr.sliceAt, run_underlying he, Instr.slice, Instr.sliceBounds, run_sliceBound h0 h1, sizeOf, typeInfo, hinf, hsz, pAdd]
theorem q_slR (sz : Nat) {x lo hi : Operand} {t : TypeId} {A : Option Addr} {m c : Nat} {kd kd' : IntKind} {h h' : Int} (hx : ev ρ x = some (.slice A m c)) (hh : ev ρ lo = some (.int kd h)) (hh' : ev ρ hi = some (.int kd' h')) (ht : slSz P t sz = true) (h0 : 0 ≤ h) (h1 : h ≤ h') (h2 : h' ≤ c) :
    Q1 P n C ⟨d, .slice t x (some lo) (some hi) none, ty, pos, after, g⟩ ρ (.slice (pAdd A c h.toNat sz) (h'.toNat - h.toNat) (c - h.toNat)) :=
  q1_of_run fun a ha w hw => by
    obtain ⟨e, inf, he, hinf, hsz⟩ := slSz_spec ht
    simp only [execOp, ha.eval hx, ha.eval hh, ha.eval hh', Option.map_some, Option.map_none]
    refine run_next_value ?_
    have h3 : h ≤ (h'.toNat : Int) := by omega
    simp [Instr.sliceAt, run_underlying he, Instr.slice, Instr.sliceBounds, run_sliceBound (show 0 ≤ h' by omega) h2, run_sliceBound h0 h3, sizeOf, typeInfo, hinf, hsz, pAdd]
/-! ### Arrays and structs -/
def bPlaces (P : Program) (t : TypeId) : Option (List Value × List (Nat × Nat)) := match P.info? t with
  | some i => match i.zero, P.underlying t with
    | some z, some (.struct fs) => match fs.toList.mapM (fun f => (P.info? f.type).map fun j => (f.offset, j.size)) with
      | some pl => some (cellsL z, pl)
      | none => none
    | some z, some (.array n e) => match P.info? e with
      | some j => some (cellsL z, (List.range n).map fun i => (i * j.size, j.size))
      | none => none
    | _, _ => none
  | none => none
def fillL (pl : List (Nat × Nat)) : List Value → List (Nat × Value) → Option (List Value)
  | cs, [] => some cs
  | cs, (i, v) :: r => match pl[i]? with
    | some (o, s) => bif Nat.beq (cellsL v).length s && Nat.ble (o + s) cs.length then fillL pl (splice cs o (cellsL v)) r else none
    | none => none
theorem fill_fillL (pl : List (Nat × Nat)) (place : Nat → Option (Nat × Nat)) (hpl : ∀ i p, pl[i]? = some p → place i = some p) : ∀ (ps : List (Nat × Value)) (cs out : List Value), fillL pl cs ps = some out → Instr.fill place cs.toArray ps = some out.toArray
  | [], cs, out, h => by simp [fillL] at h; simp [Instr.fill, h]
  | (i, v) :: r, cs, out, h => by
    simp only [fillL] at h
    split at h
    · rename_i o s hp
      cases hb : (Nat.beq (cellsL v).length s && Nat.ble (o + s) cs.length) with
      | false => rw [hb] at h; cases h
      | true =>
        rw [hb] at h
        simp only [cond_true] at h
        rw [Bool.and_eq_true] at hb
        have h1 := Nat.eq_of_beq_eq_true hb.1
        have h2 := Nat.le_of_ble_eq_true hb.2
        have ih := fill_fillL pl place hpl r _ _ h
        unfold Instr.fill
        rw [hpl i _ hp]
        simp only [cells_cellsL, List.size_toArray]
        rw [if_neg (by simp [h1]; omega)]
        have hf := foldl_set (cellsL v) (cs.take o) ((cs.drop o).take s) (cs.drop (o + s)) 0 (by simp; omega) rfl
        have e1 : cs.take o ++ (cs.drop o).take s ++ cs.drop (o + s) = cs := by
          rw [List.append_assoc, ← List.drop_drop, List.take_append_drop, List.take_append_drop]
        have e2 : (cs.take o).length = o := by simp; omega
        rw [e1, e2] at hf
        have e3 : (cellsL v).toArray.zipIdx.foldl (fun (cs : Array Value) x => cs.setIfInBounds (o + x.2) x.1) cs.toArray = (splice cs o (cellsL v)).toArray := by
          rw [splice, h1, ← hf]; simp
        rw [e3]; exact ih
    · cases h
theorem run_mapM_list {P : Program} {X Y : Type} (w : World) (g : X → Sem Y) (h : X → Option Y) (hg : ∀ x y, h x = some y → (g x).run P w = .ok y w) : ∀ (xs : List X) (ys : List Y), xs.mapM h = some ys → (xs.mapM g).run P w = .ok ys w
  | [], ys, e => by simp at e; subst e; simp
  | x :: xs, ys, e => by
    rw [List.mapM_cons] at e
    cases hx : h x with
    | none => rw [hx] at e; cases e
    | some y =>
      rw [hx] at e
      cases hr : xs.mapM h with
      | none => rw [hr] at e; cases e
      | some zs =>
        rw [hr] at e
        simp at e
        subst e
        simp [List.mapM_cons, hg x y hx, run_mapM_list w g h hg xs zs hr]
theorem run_mapM_fields {P : Program} {X Y : Type} (w : World) (g : X → Sem Y) (h : X → Option Y) (hg : ∀ x y, h x = some y → (g x).run P w = .ok y w) (xs : Array X) (ys : List Y) (e : xs.toList.mapM h = some ys) : (xs.mapM g).run P w = .ok ys.toArray w := by
  rw [← Array.toArray_toList (xs := xs), List.mapM_toArray]
  simp [run_mapM_list w g h hg xs.toList ys e]
theorem q_build (t : TypeId) (Z : List Value) (pl : List (Nat × Nat)) {parts : List (Nat × Operand)} {ps : List (Nat × Value)} {cs : List Value} (hv : opsV ρ parts = some ps) (hb : bPlaces P t = some (Z, pl)) (hf : fillL pl Z ps = some cs) :
    Q1 P n C ⟨d, .build t parts.toArray, ty, pos, after, g⟩ ρ (.agg cs.toArray) :=
  q1_of_run fun a ha w hw => by
    unfold bPlaces at hb
    split at hb
    · rename_i i hi
      simp only [execOp, List.map_toArray, opsV_map ha hv]
      refine run_next_value ?_
      split at hb
      · rename_i z fs hz hu
        split at hb
        · rename_i pl' hpl
          simp only [Option.some.injEq, Prod.mk.injEq] at hb
          obtain ⟨rfl, rfl⟩ := hb
          have := fill_fillL pl' (fun i => pl'[i]?) (fun _ _ h => h) ps _ _ hf
          have hk' := run_mapM_fields (P := P) w (fun f => Prod.mk f.offset <$> sizeOf f.type) (fun f => (P.info? f.type).map fun j => (f.offset, j.size)) (fun f p h => by
            obtain ⟨j, hj, rfl⟩ := Option.map_eq_some_iff.1 h
            simp [sizeOf, typeInfo, hj]) fs pl' hpl
          simp [Instr.build, zeroValue, typeInfo, hi, hz, run_underlying hu, cells_cellsL, hk', this]
        · cases hb
      · rename_i z m e hz hu
        split at hb
        · rename_i j hj
          simp only [Option.some.injEq, Prod.mk.injEq] at hb
          obtain ⟨rfl, rfl⟩ := hb
          have := fill_fillL _ (fun i => some (i * j.size, j.size)) (fun i p h => by
            simp only [List.getElem?_map] at h
            obtain ⟨q, h1, h2⟩ := Option.map_eq_some_iff.1 h
            have : q = i := by
              have h3 := (List.getElem?_eq_some_iff.1 h1)
              obtain ⟨h4, h5⟩ := h3
              simpa using h5.symm
            subst this; rw [← h2]) ps _ _ hf
          simp [Instr.build, zeroValue, typeInfo, hi, hz, run_underlying hu, cells_cellsL, sizeOf, hj, this]
        · cases hb
      · cases hb
    · cases hb
def arrTy (P : Program) (t : TypeId) (m sz : Nat) : Bool := match P.underlying t with | some (.array m' e) => Nat.beq m' m && (match P.info? e with | some i => Nat.beq i.size sz | none => false) | _ => false
theorem arrTy_spec {P : Program} {t : TypeId} {m sz : Nat} (h : arrTy P t m sz = true) : ∃ e i, P.underlying t = some (.array m e) ∧ P.info? e = some i ∧ i.size = sz := by
  unfold arrTy at h
  split at h
  · rename_i m' e he
    rw [Bool.and_eq_true] at h
    obtain ⟨h1, h2⟩ := h
    obtain rfl := Nat.eq_of_beq_eq_true h1
    split at h2
    · rename_i i hi; exact ⟨e, i, he, hi, Nat.eq_of_beq_eq_true h2⟩
    · cases h2
  · cases h
/-- the address of an element of an array of the call's own -/
theorem q_ixA (m sz : Nat) {x ix : Operand} {t : TypeId} {b o : Nat} {kd : IntKind} {i : Int} (hx : ev ρ x = some (.pointer (some ⟨b, o, none⟩))) (hi : ev ρ ix = some (.int kd i)) (ht : arrTy P t m sz = true) (h0 : 0 ≤ i) (h1 : i < m) :
    Q1 P n C ⟨d, .indexAddr t x ix, ty, pos, after, g⟩ ρ (.pointer (some ⟨b, o + i.toNat * sz, none⟩)) :=
  q1_of_run fun a ha w hw => by
    obtain ⟨e, inf, he, hinf, hsz⟩ := arrTy_spec ht
    simp only [execOp, ha.eval hx, ha.eval hi]
    refine run_next_value ?_
    have : (⟨b, o, none⟩ : Addr).add (i.toNat * sz) = ⟨b, o + i.toNat * sz, none⟩ := by
      unfold Addr.add; split <;> simp_all
    simp [Instr.indexAt, asIntOf, run_underlying he, Instr.sureAddr, h0, h1, sizeOf, typeInfo, hinf, hsz, this]
/-- a whole block of the call's own, of several cells -/
theorem q_lbA {b : Nat} {cs : List Value} {T : TypeId} (hm : blk b cs T ∈ as) {x : Operand} {t : TypeId} (hx : ev ρ x = some (.pointer (some ⟨b, 0, none⟩))) (ht : aggSz P t cs.length = true) :
    Q1 P n (cls w0 as) ⟨d, .load t x, ty, pos, after, g⟩ ρ (.agg cs.toArray) :=
  q1_of_run fun a hfit w hw => by
    obtain ⟨F, hF⟩ := hw.get hm
    obtain ⟨h2, inf, hinf, hsz⟩ := aggSz_spec ht
    simp only [execOp, hfit.eval hx]
    refine run_next_value ?_
    have hl := run_loadCells_list (P := P) w ⟨b, 0, none⟩ cs (fun j v hj => by
      have : (⟨b, 0, none⟩ : Addr).add j = ⟨b, j, none⟩ := by unfold Addr.add; split <;> simp_all
      rw [this]
      simp [World.cell?, hF.2, hj])
    simp [Instr.loadAt, Instr.sureAddr, loadVar, h2 w, sizeOf, typeInfo, hinf, hsz, hl]
end
/-! ### Growing -/
theorem ls_cls {P : Program} {n : Nat} {Φ : Env → (World → Prop) → Prop} {ops l : List Oper} {ρ : Env} {C C' : World → Prop} (h : LS P n Φ ops l ρ C') (hC : ∀ w, C w → C' w) : LS P n Φ ops l ρ C := ⟨fun a w ha hw => h.out a w ha (hC w hw)⟩
theorem g_cls {P : Program} {f : FuncId} {n : Nat} {R : Ending → World → Prop} {k : List Item} {ρ : Env} {C C' : World → Prop} (h : Go P f n R k ρ C') (hC : ∀ w, C w → C' w) : Go P f n R k ρ C := ⟨fun a w ha hw => h.out a w ha (hC w hw)⟩
section
variable {P : Program} {f : FuncId} {n : Nat} {R : Ending → World → Prop} {k : List Item} {Φ : Env → (World → Prop) → Prop} {ops l : List Oper} {ρ : Env} {w0 : World} {as as' : List Asn}
  {d : Nat} {ty : TypeId} {pos : String} {after : Array Edge} {g : Option (Nat × Bool)}
theorem rowE_cap {α : Type} {E : Enc α} {A : Option Addr} {c : Nat} {T : TypeId} {xs : List α} {w : World} {F : Nat → Prop} (h : (rowE E A c T xs).holds w F) : xs.length ≤ c := by
  obtain ⟨_, n, hn⟩ := h
  rcases hn.2 with ⟨h1, h2⟩ | ⟨g, cap, cur, h1, h2, h3, h4, h5, _⟩
  · injection h1 with _ h1 _
    omega
  · injection h1 with h1 h6 h7
    omega
theorem ls_cap {α : Type} {E : Enc α} {A : Option Addr} {c : Nat} {T : TypeId} {xs : List α} (h : xs.length ≤ c → LS P n Φ ops l ρ (cls w0 (rowE E A c T xs :: as))) : LS P n Φ ops l ρ (cls w0 (rowE E A c T xs :: as)) :=
  ls_pure (fun w hw => let ⟨F, hF⟩ := hw.get (.head _); rowE_cap hF) h
theorem cls.nil {α : Type} (E : Enc α) (T : TypeId) {w0 w : World} {as : List Asn} (h : cls w0 as w) : cls w0 (rowE E none 0 T [] :: as) w := by
  obtain ⟨h1, F, hF⟩ := h
  refine ⟨h1, F, fun _ => False, F, ⟨fun k => by simp [Value.ownBlock], 0, ?_⟩, hF, fun b h => h.1, fun b => by simp, fun b h => h.elim⟩
  exact ⟨by simp, .inl ⟨rfl, rfl⟩⟩
/-- an empty literal -/
theorem Lsn {α : Type} (E : Enc α) (e bytes : Nat) {t : Nat}
    (k' : ∀ b, LS P n Φ ops l ((d, .slice (some ⟨b, 0, none⟩) 0 0) :: ρ) (cls w0 (rowE E (some ⟨b, 0, none⟩) 0 e [] :: as)))
    (hg : want ops ρ g = some true := by rfl) (hd : Nat.blt d n = true := by rfl)
    (ht : slTy P t e E.sz bytes = true := by kernel_rfl) (hz : (match P.info? e with | some i => (match i.zero with | some z => Nat.beq (cellsL z).length E.sz | none => false) | none => false) = true := by kernel_rfl) :
    LS P n Φ ops (⟨some d, .buildSlice t 0 #[], ty, pos, after, g⟩ :: l) ρ (cls w0 as) :=
  Lsl (parts := []) (ps := []) E.sz e bytes (fun b => k' b) hg hd rfl rfl rfl ht hz (by have := E.pos; exact Nat.ble_eq_true_of_le this) (by simp)
/-- append onto a list of the call's own -/
theorem Lpe {α : Type} (i : Nat) (E : Enc α) (bytes : Nat) (l2 : List α) {s x : Operand} {t T m' c c' : Nat} {A B : Option Addr} {l1 : List α}
    (hsrc : ∀ w, cls w0 as w → RdA (Kd.of E) w B l2)
    (k' : ∀ A' c'', (l1 ++ l2).length ≤ c'' → LS P n Φ ops l ((d, .slice A' (l1 ++ l2).length c'') :: ρ) (cls w0 (rowE E A' c'' T (l1 ++ l2) :: as')))
    (hp : pick i as = some (rowE E A c T l1, as') := by rfl)
    (hg : want ops ρ g = some true := by rfl) (hd : Nat.blt d n = true := by rfl) (hs : ev ρ s = some (.slice A l1.length c) := by rfl) (hx : ev ρ x = some (.slice B m' c') := by rfl) (hm : m' = l2.length := by first | rfl | (simp only [List.length_drop, List.length_take, List.length_append, Int.toNat_natCast]; omega) | (simp only [List.length_drop, List.length_take, List.length_append, Int.toNat_natCast]; done))
    (ht : slTy P t T E.sz bytes = true := by kernel_rfl) (hz : (match P.info? T with | some i => (match i.zero with | some z => Nat.beq (cellsL z).length E.sz | none => false) | none => false) = true := by kernel_rfl)
    (hb0 : Nat.blt 0 bytes = true := by rfl) (hb : (l1.length + l2.length) * (E.sz * bytes) ≤ 140737488355328 := by first | (simp [eI, eInt, ePair, eBool, eStr]; done) | (simp [eI, eInt, ePair, eBool, eStr]; omega)) :
    LS P n Φ ops (⟨some d, .call { callee := .builtin .append, args := #[s, x], argTypes := #[t, t] }, ty, pos, after, g⟩ :: l) ρ (cls w0 as) := by
  subst hm
  refine Lap (A := A) (B := B) i (fun w hw => rd_src (hsrc w hw)) (by rw [flatMap_len, flatMap_len, ← Nat.add_mul, Nat.mul_assoc]; exact hb) (fun u hu => ?_) (fun A' c'' => ?_) hp hg hd hs hx ht hz (by have := E.pos; exact Nat.ble_eq_true_of_le this) hb0
  · obtain ⟨x, _, hx⟩ := List.mem_flatMap.1 hu
    exact E.one x u hx
  · have e2 : row (.slice A' (l1.length + l2.length) c'') T E.sz (l1.flatMap E.cells ++ l2.flatMap E.cells) = rowE E A' c'' T (l1 ++ l2) := by
      unfold rowE; rw [List.length_append, List.flatMap_append]
    rw [e2, ← List.length_append]
    exact ls_cap fun hc => k' A' c'' hc
/-- .. of one element, a literal that was made just before, which is forgotten -/
theorem Lp1 {α : Type} (i : Nat) (E : Enc α) (bytes : Nat) (u : α) {s x : Operand} {t T c cl : Nat} {A B : Option Addr} {l1 : List α} {rest : List Asn}
    (k' : ∀ A' c'', (l1 ++ [u]).length ≤ c'' → LS P n Φ ops l ((d, .slice A' (l1 ++ [u]).length c'') :: ρ) (cls w0 (rowE E A' c'' T (l1 ++ [u]) :: as')))
    (has : as = rowE E B cl T [u] :: rest := by rfl) (hp : pick i rest = some (rowE E A c T l1, as') := by rfl)
    (hg : want ops ρ g = some true := by rfl) (hd : Nat.blt d n = true := by rfl) (hs : ev ρ s = some (.slice A l1.length c) := by rfl) (hx : ev ρ x = some (.slice B 1 cl) := by rfl)
    (ht : slTy P t T E.sz bytes = true := by kernel_rfl) (hz : (match P.info? T with | some i => (match i.zero with | some z => Nat.beq (cellsL z).length E.sz | none => false) | none => false) = true := by kernel_rfl)
    (hb0 : Nat.blt 0 bytes = true := by rfl) (hb : (l1.length + 1) * (E.sz * bytes) ≤ 140737488355328 := by first | (simp [eI, eInt, ePair, eBool, eStr]; done) | (simp [eI, eInt, ePair, eBool, eStr]; omega)) :
    LS P n Φ ops (⟨some d, .call { callee := .builtin .append, args := #[s, x], argTypes := #[t, t] }, ty, pos, after, g⟩ :: l) ρ (cls w0 as) := by
  subst has
  refine Lpe (as' := rowE E B cl T [u] :: as') (i + 1) E bytes [u] (fun w hw => ro (.head _) w hw) (fun A' c'' hc => ?_) (by simp only [pick, hp]) hg hd hs hx rfl ht hz hb0 (by simpa using hb)
  exact ls_cls (k' A' c'' hc) fun w hw => hw.sub (.cons_cons _ (.cons _ (List.Sublist.refl _)))
end
end Go.G
