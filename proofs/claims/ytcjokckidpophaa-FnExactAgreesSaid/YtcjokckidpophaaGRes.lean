import Derived.Test.YtcjokckidpophaaGMore
import Derived.Laws.StructEq
set_option linter.all false
/-! Results in cells; more of single operations. -/
namespace Go.G
open Go.RowKit
/-- what a result variable holds in the worlds of a class -/
def ResOk (P : Program) (ρ : Env) (C : World → Prop) : ResultVar → Value → Prop
  | .tmp t, v => lk ρ t = some v
  | .cell a T, v => ∃ ad, lk ρ a = some (.pointer (some ad)) ∧ ∀ w, C w → (loadVar T ad).run P w = .ok v w
def resSem (P : Program) (a : Act) (r : ResultVar) : Sem Value := match r with
  | .tmp t => pure (a.tmps.getD t undef)
  | .cell b t => do loadVar t (← asAddr (a.tmps.getD b undef))
theorem resSem_run {P : Program} {n : Nat} {ρ : Env} {C : World → Prop} {a : Act} {r : ResultVar} {v : Value} {w : World} (ha : Fits n a ρ) (hw : C w) (h : ResOk P ρ C r v) : (resSem P a r).run P w = .ok v w := by
  cases r with
  | tmp t => simp [resSem, ha.getD h]
  | cell b t =>
    obtain ⟨ad, h1, h2⟩ := h
    simp [resSem, ha.getD h1, asAddr, h2 w hw]
section
variable {P : Program} {f : FuncId} {n : Nat} {R : Ending → World → Prop} {k : List Item} {ρ : Env} {C : World → Prop} {fn : Func} {r0 r1 r2 : ResultVar} {u0 u1 u2 : Value}
theorem g_ret_of {v : Value} (hf : P.funcs[f]? = some fn) (hr : ∀ a w, Fits n a ρ → C w → (results fn a.tmps).run P w = .ok v w) (h : ∀ w, C w → R (.returned v) w) : Go P f n R (.code .ret :: k) ρ C := by
  refine ⟨fun a w ha hw cs => ?_⟩
  exact ⟨.returned v, w, _, h w hw, Steps.one step_ret, rfl, rfl, ha.defers, rfl, fn, hf, hr a w ha hw⟩
theorem res1 (hr : fn.results = #[r0]) (h0 : ResOk P ρ C r0 u0) (a : Act) (w : World) (ha : Fits n a ρ) (hw : C w) : (results fn a.tmps).run P w = .ok u0 w := by
  have e0 := resSem_run ha hw h0
  unfold results
  rw [hr]
  show Sem.run P (do let vs ← #[r0].mapM (resSem P a); pure (if h : vs.size = 1 then vs[0] else .tuple vs)) w = _
  simp [e0]
theorem res2 (hr : fn.results = #[r0, r1]) (h0 : ResOk P ρ C r0 u0) (h1 : ResOk P ρ C r1 u1) (a : Act) (w : World) (ha : Fits n a ρ) (hw : C w) : (results fn a.tmps).run P w = .ok (.tuple #[u0, u1]) w := by
  have e0 := resSem_run ha hw h0
  have e1 := resSem_run ha hw h1
  unfold results
  rw [hr]
  show Sem.run P (do let vs ← #[r0, r1].mapM (resSem P a); pure (if h : vs.size = 1 then vs[0] else .tuple vs)) w = _
  simp [e0, e1]
theorem res3 (hr : fn.results = #[r0, r1, r2]) (h0 : ResOk P ρ C r0 u0) (h1 : ResOk P ρ C r1 u1) (h2 : ResOk P ρ C r2 u2) (a : Act) (w : World) (ha : Fits n a ρ) (hw : C w) : (results fn a.tmps).run P w = .ok (.tuple #[u0, u1, u2]) w := by
  have e0 := resSem_run ha hw h0
  have e1 := resSem_run ha hw h1
  have e2 := resSem_run ha hw h2
  unfold results
  rw [hr]
  show Sem.run P (do let vs ← #[r0, r1, r2].mapM (resSem P a); pure (if h : vs.size = 1 then vs[0] else .tuple vs)) w = _
  simp [e0, e1, e2]
end
section
variable {P : Program} {f : FuncId} {n : Nat} {k : List Item} {ρ : Env} {w0 : World} {as : List Asn} {fn : Func} {r0 r1 r2 : ResultVar} {u0 u1 u2 : Value}
theorem rt {t : Tmp} {v : Value} (h : lk ρ t = some v := by rfl) : ResOk P ρ (cls w0 as) (.tmp t) v := h
theorem rb {t b : Nat} {T : TypeId} {cs : List Value} (hm : blk b cs T ∈ as) (ht : aggSz P T cs.length = true) (h : lk ρ t = some (.pointer (some ⟨b, 0, none⟩)) := by rfl) : ResOk P ρ (cls w0 as) (.cell t T) (.agg cs.toArray) :=
  ⟨_, h, fun w hw => by
    obtain ⟨F, hF⟩ := hw.get hm
    obtain ⟨h2, inf, hinf, hsz⟩ := aggSz_spec ht
    have hl := run_loadCells_list (P := P) w ⟨b, 0, none⟩ cs (fun j v hj => by
      have : (⟨b, 0, none⟩ : Addr).add j = ⟨b, j, none⟩ := by unfold Addr.add; split <;> simp_all
      rw [this]
      simp [World.cell?, hF.2, hj])
    simp [loadVar, h2 w, sizeOf, typeInfo, hinf, hsz, hl]⟩
theorem rb1 {t b : Nat} {T : TypeId} {v : Value} (hm : blk b [v] T ∈ as) (ht : notAgg P T = true) (h : lk ρ t = some (.pointer (some ⟨b, 0, none⟩)) := by rfl) : ResOk P ρ (cls w0 as) (.cell t T) v :=
  ⟨_, h, fun w hw => by
    obtain ⟨F, hF⟩ := hw.get hm
    obtain ⟨ad, e, hc⟩ := blk_pts hF (o := 0) (v := v) rfl
    simp only [Value.pointer.injEq, Option.some.injEq] at e
    subst e
    simp [loadVar, notAgg_run ht, hc]⟩
theorem sub_front {w : World} {new as : List Asn} (h : cls w0 as w) (hs : new.Sublist as) : ∃ G, SL w0.heap.size w new G := (h.sub hs).2
/-- ends: plain results -/
theorem g_v1 (hf : P.funcs[f]? = some fn) (hr : fn.results = #[r0]) (h0 : ResOk P ρ (cls w0 as) r0 u0) {v : Value} (h : u0 = v) : Go P f n (fun e w' => e = .returned v ∧ Ext w0 w') (.code .ret :: k) ρ (cls w0 as) := by
  subst h
  exact g_ret_of hf (res1 hr h0) fun w hw => ⟨rfl, hw.1⟩
theorem g_v2 (hf : P.funcs[f]? = some fn) (hr : fn.results = #[r0, r1]) (h0 : ResOk P ρ (cls w0 as) r0 u0) (h1 : ResOk P ρ (cls w0 as) r1 u1) {v : Value} (h : .tuple #[u0, u1] = v) : Go P f n (fun e w' => e = .returned v ∧ Ext w0 w') (.code .ret :: k) ρ (cls w0 as) := by
  subst h
  exact g_ret_of hf (res2 hr h0 h1) fun w hw => ⟨rfl, hw.1⟩
/-- ends: with made memory -/
theorem g_n1 (new : List Asn) {S : Value → List Asn → Prop} (hf : P.funcs[f]? = some fn) (hr : fn.results = #[r0]) (h0 : ResOk P ρ (cls w0 as) r0 u0) (h : S u0 new)
    (hs : new.Sublist as := by repeat' (first | exact List.Sublist.refl _ | exact List.nil_sublist _ | refine List.Sublist.cons_cons _ ?_ | refine List.Sublist.cons _ ?_)) :
    Go P f n (fun e w' => ∃ v new G, e = .returned v ∧ S v new ∧ Ext w0 w' ∧ SL w0.heap.size w' new G) (.code .ret :: k) ρ (cls w0 as) :=
  g_ret_of hf (res1 hr h0) fun w hw => let ⟨G, hG⟩ := sub_front hw hs; ⟨_, new, G, rfl, h, hw.1, hG⟩
theorem g_n2 (new : List Asn) {S : Value → List Asn → Prop} (hf : P.funcs[f]? = some fn) (hr : fn.results = #[r0, r1]) (h0 : ResOk P ρ (cls w0 as) r0 u0) (h1 : ResOk P ρ (cls w0 as) r1 u1) (h : S (.tuple #[u0, u1]) new)
    (hs : new.Sublist as := by repeat' (first | exact List.Sublist.refl _ | exact List.nil_sublist _ | refine List.Sublist.cons_cons _ ?_ | refine List.Sublist.cons _ ?_)) :
    Go P f n (fun e w' => ∃ v new G, e = .returned v ∧ S v new ∧ Ext w0 w' ∧ SL w0.heap.size w' new G) (.code .ret :: k) ρ (cls w0 as) :=
  g_ret_of hf (res2 hr h0 h1) fun w hw => let ⟨G, hG⟩ := sub_front hw hs; ⟨_, new, G, rfl, h, hw.1, hG⟩
theorem g_n3 (new : List Asn) {S : Value → List Asn → Prop} (hf : P.funcs[f]? = some fn) (hr : fn.results = #[r0, r1, r2]) (h0 : ResOk P ρ (cls w0 as) r0 u0) (h1 : ResOk P ρ (cls w0 as) r1 u1) (h2 : ResOk P ρ (cls w0 as) r2 u2) (h : S (.tuple #[u0, u1, u2]) new)
    (hs : new.Sublist as := by repeat' (first | exact List.Sublist.refl _ | exact List.nil_sublist _ | refine List.Sublist.cons_cons _ ?_ | refine List.Sublist.cons _ ?_)) :
    Go P f n (fun e w' => ∃ v new G, e = .returned v ∧ S v new ∧ Ext w0 w' ∧ SL w0.heap.size w' new G) (.code .ret :: k) ρ (cls w0 as) :=
  g_ret_of hf (res3 hr h0 h1 h2) fun w hw => let ⟨G, hG⟩ := sub_front hw hs; ⟨_, new, G, rfl, h, hw.1, hG⟩
/-- on to a point that is known -/
theorem g_og {R : Ending → World → Prop} {ρ' : Env} {as' : List Asn} (h : Go P f n R k ρ' (cls w0 as')) (hs : EnvSub ρ' ρ := by repeat (first | exact trivial | refine ⟨rfl, ?_⟩))
    (hm : as'.Sublist as := by repeat' (first | exact List.Sublist.refl _ | exact List.nil_sublist _ | refine List.Sublist.cons_cons _ ?_ | refine List.Sublist.cons _ ?_)) : Go P f n R k ρ (cls w0 as) :=
  g_to h hs fun _ h => h.sub hm
end
section
variable {P : Program} {n : Nat} {C : World → Prop} {ρ : Env} {d : Option Tmp} {ty : TypeId} {pos : String} {after : Array Edge} {g : Option (Nat × Bool)}
def isBool (P : Program) (t : TypeId) : Bool := match P.underlying t with | some .bool => true | _ => false
theorem isBool_spec {P : Program} {t : TypeId} (h : isBool P t = true) : P.underlying t = some .bool := by
  unfold isBool at h; split at h <;> simp_all
theorem eqd {P : Program} {w : World} {T : TypeId} {a b : Bool} (hT : isBool P T = true) : (Op.equalIn Op.maxDepth T (.bool a) (.bool b)).run P w = .ok (a == b) w := run_equalIn_bool' w (Op.maxDepth - 1) T a b (isBool_spec hT)
theorem q_neqB {x y : Operand} {T T' : TypeId} {a b r : Bool} (hx : ev ρ x = some (.bool a)) (hy : ev ρ y = some (.bool b)) (hT : isBool P T = true) (hr : (a != b) = r) :
    Q1 P n C ⟨d, .binOp .neq T x y T', ty, pos, after, g⟩ ρ (.bool r) := by
  subst hr
  exact q1_of_run fun A ha w _ => by
    simp only [execOp, ha.eval hx, ha.eval hy]
    refine run_next_value ?_
    simp [eqGuard, binOp, Op.equal, eqd hT, bne]
theorem q_eqlB {x y : Operand} {T T' : TypeId} {a b r : Bool} (hx : ev ρ x = some (.bool a)) (hy : ev ρ y = some (.bool b)) (hT : isBool P T = true) (hr : (a == b) = r) :
    Q1 P n C ⟨d, .binOp .eql T x y T', ty, pos, after, g⟩ ρ (.bool r) := by
  subst hr
  exact q1_of_run fun A ha w _ => by
    simp only [execOp, ha.eval hx, ha.eval hy]
    refine run_next_value ?_
    simp [eqGuard, binOp, Op.equal, eqd hT, bne]
end
/-- make -/
theorem Lmk2 {P : Program} {n : Nat} {Φ : Env → (World → Prop) → Prop} {ops l : List Oper} {ρ : Env} {w0 : World} {as : List Asn} {d : Nat} {ty : TypeId} {pos : String} {after : Array Edge} {g : Option (Nat × Bool)} {α : Type} (E : Enc α) (e bytes : Nat) {t : Nat} {x y : Operand} {kl kc : IntKind} {m : Int}
    (k' : ∀ b, LS P n Φ ops l ((d, .slice (some ⟨b, 0, none⟩) m.toNat m.toNat) :: ρ) (cls w0 (rowE E (some ⟨b, 0, none⟩) m.toNat e (List.replicate m.toNat E.zero) :: as)))
    (hg : want ops ρ g = some true := by rfl) (hd : Nat.blt d n = true := by rfl) (hx : ev ρ x = some (.int kl m) := by rfl) (hy : ev ρ y = some (.int kc m) := by rfl)
    (ht : slTy P t e E.sz bytes = true := by kernel_rfl) (hz : (P.info? e).map (fun i => i.zero.map cellsL) = some (some (E.cells E.zero)) := by kernel_rfl) (hb0 : Nat.blt 0 bytes = true := by rfl)
    (hm0 : 0 ≤ m := by omega) (hmb : bytes * m ≤ 281474976710656 := by omega) :
    LS P n Φ ops (⟨some d, .makeSlice t x y, ty, pos, after, g⟩ :: l) ρ (cls w0 as) := Lmk E e bytes hm0 hmb k' hg hd hx hy ht hz hb0
/-- a whole block of the call's own, of sz cells -/
theorem q_lbB {P : Program} {n : Nat} {ρ : Env} {d : Option Tmp} {ty : TypeId} {pos : String} {after : Array Edge} {g : Option (Nat × Bool)} {w0 : World} {as : List Asn} (sz : Nat) {b : Nat} {cs : List Value} {T : TypeId} (hm : blk b cs T ∈ as) {x : Operand} {t : TypeId} (hx : ev ρ x = some (.pointer (some ⟨b, 0, none⟩))) (ht : aggSz P t sz = true) (hl : cs.length = sz) :
    Q1 P n (cls w0 as) ⟨d, .load t x, ty, pos, after, g⟩ ρ (.agg cs.toArray) := q_lbA hm hx (by rw [hl]; exact ht)
/-- what a loop that fills a made list has filled -/
def filled {α : Type} (xs : List α) (z : α) (k : Nat) : List α := xs.take k ++ List.replicate (xs.length - k) z
theorem filled_len {α : Type} (xs : List α) (z : α) (k : Nat) (h : k ≤ xs.length) : (filled xs z k).length = xs.length := by
  unfold filled; simp; omega
theorem filled_set {α : Type} (xs : List α) (z u : α) (k : Nat) (h : k < xs.length) (hu : xs[k] = u) : (filled xs z k).set k u = filled xs z (k + 1) := by
  subst hu
  unfold filled
  rw [List.set_append, if_neg (by simp; omega), List.take_succ_eq_append_getElem h]
  have e : xs.length - k = (xs.length - (k + 1)) + 1 := by omega
  have e2 : k - (xs.take k).length = 0 := by simp; omega
  rw [e, e2, List.replicate_succ, List.set_cons_zero, List.append_assoc]
  rfl
theorem filled_all {α : Type} (xs : List α) (z : α) : filled xs z xs.length = xs := by simp [filled]
theorem filled_zero {α : Type} (xs : List α) (z : α) : filled xs z 0 = List.replicate xs.length z := by simp [filled]
end Go.G
