import Derived.Test.YtcjokckidpophaaGMore
set_option linter.all false
namespace Go.G
open Go.RowKit
/-! ### Regions that draw their order, and make memory

A walk in an order of the prover's own choice: what hangs on nothing made in the region stands first; whatever stands behind an operation that
makes memory hangs on it. -/
abbrev Ord := List (Nat × Nat)
section
variable {P : Program} {ops : Array Oper} {w0 : World}
def StepAt (P : Program) (w0 : World) (T : Value → List Asn → Prop) : Result Next → Prop
  | .ok (.value u) w' => ∃ as', T u as' ∧ cls w0 as' w'
  | .ok .skip w' => ∃ as', T undef as' ∧ cls w0 as' w'
  | .ok (.enter f args) w' => Calls P f args w' (fun e w'' => ∃ v as', e = .returned v ∧ T v as' ∧ cls w0 as' w'')
  | .ok (.row row args) w' => Rows P row args w' (fun v w'' => ∃ as', T v as' ∧ cls w0 as' w'')
  | _ => False
def Step (P : Program) (ops : Array Oper) (w0 : World) (o : Oper) (a : Act) (as : List Asn) (T : Value → List Asn → Prop) : Prop :=
  (Region.wanted o (yielded ops a.tmps) = true ∧ ∀ w, cls w0 as w → StepAt P w0 T ((execOp a.eval o).run P w)) ∨ (Region.wanted o (yielded ops a.tmps) = false ∧ ∀ w, cls w0 as w → ∃ as', T undef as' ∧ cls w0 as' w)
def Qx (P : Program) (ops : Array Oper) (w0 : World) (o : Oper) (a : Act) (as : List Asn) (v : Value) : Prop :=
  (Region.wanted o (yielded ops a.tmps) = true ∧ ∀ w, cls w0 as w → o.quietAt P a (Ext w) w v) ∨ (Region.wanted o (yielded ops a.tmps) = false ∧ v = undef)
def wpAS (P : Program) (ops : Array Oper) (w0 : World) (Q : Act → List Asn → Prop) : Ord → Act → List Asn → Prop
  | [], a, as => Q a as
  | (i, k) :: r, a, as => ∃ o, ops[i]? = some o ∧
    ((k = 0 ∧ ∃ v, Qx P ops w0 o a as v ∧ wpAS P ops w0 Q r (a.put o.dst v) as) ∨
     (k ≠ 0 ∧ ∃ T, Step P ops w0 o a as T ∧ (k ≠ 2 → ∀ v as', T v as' → as.Sublist as') ∧ ∀ v as', T v as' → wpAS P ops w0 Q r (a.put o.dst v) as'))
theorem Qx.step {o : Oper} {a : Act} {as : List Asn} {v : Value} (h : Qx P ops w0 o a as v) : Step P ops w0 o a as (fun u as' => u = v ∧ as' = as) := by
  rcases h with ⟨h1, h2⟩ | ⟨h1, rfl⟩
  · refine .inl ⟨h1, fun w hw => ?_⟩
    have := h2 w hw
    unfold Oper.quietAt at this
    generalize (execOp a.eval o).run P w = r at *
    cases r with
    | ok x w' =>
      cases x <;> simp only [Oper.quietUpon] at this
      case value u => exact ⟨as, ⟨this.2, rfl⟩, this.1 ▸ hw⟩
      case skip => exact ⟨as, ⟨this.2.symm, rfl⟩, this.1 ▸ hw⟩
      case enter f args =>
        obtain ⟨rfl, hc⟩ := this
        exact hc.mono fun e w'' ⟨h1, h2⟩ => ⟨v, as, h1, ⟨rfl, rfl⟩, hw.ext h2⟩
    | halt x w' => simp only [Oper.quietUpon] at this
  · exact .inr ⟨h1, fun w hw => ⟨as, ⟨rfl, rfl⟩, hw⟩⟩
theorem Qx.mono {o : Oper} {a : Act} {as as' : List Asn} {v : Value} (h : Qx P ops w0 o a as v) (hs : as.Sublist as') : Qx P ops w0 o a as' v :=
  h.imp (fun h => ⟨h.1, fun w hw => h.2 w (hw.sub hs)⟩) id
theorem Qx.congr {o : Oper} {a a' : Act} {as : List Asn} {v : Value} (h : Qx P ops w0 o a as v) (he : execOp a'.eval o = execOp a.eval o)
    (hw : Region.wanted o (yielded ops a'.tmps) = Region.wanted o (yielded ops a.tmps)) : Qx P ops w0 o a' as v := by
  unfold Qx Oper.quietAt at *
  rw [he, hw]
  exact h
theorem Step.congr {o : Oper} {a a' : Act} {as : List Asn} {T : Value → List Asn → Prop} (h : Step P ops w0 o a as T) (he : execOp a'.eval o = execOp a.eval o)
    (hw : Region.wanted o (yielded ops a'.tmps) = Region.wanted o (yielded ops a.tmps)) : Step P ops w0 o a' as T := by
  unfold Step at *
  rw [he, hw]
  exact h
/-! what hangs on what -/
def maskOf (acc : List Nat) : List Edge → Nat → Nat
  | [], s => s
  | e :: es, s => maskOf acc es (if Region.binds .any e then s ||| (2 ^ e.on ||| acc.getD e.on 0) else s)
def clos : List Oper → List Nat → List Nat
  | [], acc => acc
  | o :: r, acc => clos r (acc ++ [maskOf acc o.after.toList 0])
theorem maskOf_spec (acc : List Nat) (i : Nat) : ∀ (es : List Edge) (s : Nat), (maskOf acc es s).testBit i = true → s.testBit i = true ∨ ∃ e ∈ es, Region.binds .any e = true ∧ (e.on = i ∨ (acc.getD e.on 0).testBit i = true)
  | [], s, h => .inl h
  | e :: es, s, h => by
    rcases maskOf_spec acc i es _ h with h1 | ⟨e', he, h1⟩
    · by_cases hb : Region.binds .any e = true
      · rw [if_pos hb, Nat.testBit_or, Nat.testBit_or, Bool.or_eq_true, Bool.or_eq_true, Nat.testBit_two_pow] at h1
        rcases h1 with h1 | h1 | h1
        · exact .inl h1
        · exact .inr ⟨e, by simp, hb, .inl (by simpa using h1)⟩
        · exact .inr ⟨e, by simp, hb, .inr h1⟩
      · rw [if_neg hb] at h1
        exact .inl h1
    · exact .inr ⟨e', by simp [he], h1⟩
def Sound (ops : Array Oper) (t : List Nat) : Prop := ∀ j m, t[j]? = some m → ∀ i, m.testBit i = true → ∃ o, ops[j]? = some o ∧ ∃ e ∈ o.after.toList, Region.binds .any e = true ∧ (e.on = i ∨ (e.on < j ∧ (t.getD e.on 0).testBit i = true))
theorem clos_sound (ops : Array Oper) : ∀ (l : List Oper) (acc : List Nat), (∀ j, l[j]? = ops[acc.length + j]?) → Sound ops acc → Sound ops (clos l acc)
  | [], acc, _, h => h
  | o :: r, acc, hl, h => by
    refine clos_sound ops r _ (fun j => ?_) ?_
    · have := hl (j + 1)
      simp only [List.getElem?_cons_succ] at this
      rw [this, List.length_append, List.length_singleton]
      congr 1; omega
    · intro j m hj i hi
      rcases Nat.lt_or_ge j acc.length with hlt | hge
      · rw [List.getElem?_append_left hlt] at hj
        obtain ⟨o', ho, e, he, hb, h1⟩ := h j m hj i hi
        refine ⟨o', ho, e, he, hb, h1.imp id fun ⟨h2, h3⟩ => ⟨h2, ?_⟩⟩
        rw [List.getD_eq_getElem?_getD] at h3 ⊢
        rw [List.getElem?_append_left (by omega)]; exact h3
      · have hje : j = acc.length := by
          have := (List.getElem?_eq_some_iff.1 hj).1
          simp at this; omega
        subst hje
        rw [List.getElem?_append_right (Nat.le_refl _)] at hj
        simp at hj
        subst hj
        have h0 := hl 0
        simp at h0
        rcases maskOf_spec acc i _ _ hi with h1 | ⟨e, he, hb, h1⟩
        · simp at h1
        · refine ⟨o, h0.symm, e, he, hb, h1.imp id fun h2 => ?_⟩
          have hlt : e.on < acc.length := by
            rcases Nat.lt_or_ge e.on acc.length with h3 | h3
            · exact h3
            · rw [List.getD_eq_getElem?_getD, List.getElem?_eq_none h3] at h2
              simp at h2
          refine ⟨hlt, ?_⟩
          rw [List.getD_eq_getElem?_getD] at h2 ⊢
          rw [List.getElem?_append_left hlt]; exact h2
def tab (ops : Array Oper) : List Nat := clos ops.toList []
theorem tab_sound (ops : Array Oper) : Sound ops (tab ops) := clos_sound ops _ _ (fun j => by simp) fun j m h => by simp at h
def depB (t : List Nat) (j i : Nat) : Bool := (t.getD j 0).testBit i
/-- every listed operation has what it waits for listed -/
def ClosedL (ops : Array Oper) (listed : Array Bool) : Prop := ∀ j o, ops[j]? = some o → listed.getD j false = true → ∀ e ∈ o.after.toList, Region.binds .any e = true → listed.getD e.on false = true
theorem dep_listed {t : List Nat} (ht : Sound ops t) {listed : Array Bool} (hc : ClosedL ops listed) : ∀ j i, listed.getD j false = true → depB t j i = true → listed.getD i false = true := by
  intro j
  induction j using Nat.strongRecOn with
  | _ j ih =>
    intro i hj hd
    unfold depB at hd
    cases hm : t[j]? with
    | none => rw [List.getD_eq_getElem?_getD, hm] at hd; simp at hd
    | some m =>
      have hm' : t.getD j 0 = m := by rw [List.getD_eq_getElem?_getD, hm]; rfl
      rw [hm'] at hd
      obtain ⟨o, ho, e, he, hb, h1⟩ := ht j m hm i hd
      have hle := hc j o ho hj e he hb
      rcases h1 with rfl | ⟨h2, h3⟩
      · exact hle
      · exact ih e.on h2 i hle h3
def apartB (ops : Array Oper) (i j : Nat) : Bool := match ops[i]?, ops[j]? with
  | some x, some y => x.apart ops y
  | _, _ => false
def pairOk (t : List Nat) (ops : Array Oper) (p q : Nat × Nat) : Bool := depB t q.1 p.1 || (Nat.beq p.2 0 && !Nat.beq q.2 2 && apartB ops p.1 q.1)
def chk (t : List Nat) (ops : Array Oper) : Ord → Bool
  | [] => true
  | p :: r => r.all (pairOk t ops p) && chk t ops r
theorem chk_filter {t : List Nat} (q : Nat × Nat → Bool) : ∀ {l : Ord}, chk t ops l = true → chk t ops (l.filter q) = true
  | [], h => rfl
  | p :: r, h => by
    simp only [chk, Bool.and_eq_true] at h
    rw [List.filter_cons]
    split
    · simp only [chk, Bool.and_eq_true]
      refine ⟨List.all_eq_true.2 fun x hx => List.all_eq_true.1 h.1 x (List.mem_filter.1 hx).1, chk_filter q h.2⟩
    · exact chk_filter q h.2
theorem filter_none {j : Nat} {r : Ord} (h : j ∉ r.map Prod.fst) : r.filter (fun p => p.1 != j) = r := by
  rw [List.filter_eq_self]
  intro p hp
  have : p.1 ≠ j := fun e => h (List.mem_map.2 ⟨p, hp, e⟩)
  simpa using this
theorem pull {t : List Nat} {Q : Act → List Asn → Prop} (hsel : ∀ (j : Nat) (o : Oper) cs b, ops[j]? = some o → o.op ≠ .select cs b) : ∀ (l : Ord) (a : Act) (as : List Asn), wpAS P ops w0 Q l a as → chk t ops l = true → (l.map Prod.fst).Nodup →
    ∀ j k, (j, k) ∈ l → (∀ p ∈ l, depB t j p.1 = false) → ∃ o T, ops[j]? = some o ∧ Step P ops w0 o a as T ∧ (k ≠ 2 → ∀ v as', T v as' → as.Sublist as') ∧ ∀ v as', T v as' → wpAS P ops w0 Q (l.filter fun p => p.1 != j) (a.put o.dst v) as'
  | [], _, _, _, _, _, j, k, hj, _ => by cases hj
  | (i, k0) :: r, a, as, h, hc, hn, j, k, hj, hd => by
    simp only [chk, Bool.and_eq_true] at hc
    rw [List.map_cons, List.nodup_cons] at hn
    by_cases hij : i = j
    · subst hij
      have hk : k = k0 := by
        rcases List.mem_cons.1 hj with e | e
        · injection e
        · exact absurd (List.mem_map.2 ⟨_, e, rfl⟩) hn.1
      subst hk
      have hf : ((i, k) :: r).filter (fun p => p.1 != i) = r := by
        rw [List.filter_cons, if_neg (by simp), filter_none hn.1]
      rw [hf]
      obtain ⟨o, ho, h⟩ := h
      refine ⟨o, ?_⟩
      rcases h with ⟨h0, v, h1, h2⟩ | ⟨h0, T, h1, h2, h3⟩
      · refine ⟨_, ho, h1.step, fun _ v' as' ⟨_, e⟩ => e ▸ List.Sublist.refl _, ?_⟩
        rintro v' as' ⟨rfl, rfl⟩
        exact h2
      · exact ⟨T, ho, h1, h2, h3⟩
    · have hjr : (j, k) ∈ r := by
        rcases List.mem_cons.1 hj with e | e
        · injection e with e1 e2; exact absurd e1.symm hij
        · exact e
      have hp := List.all_eq_true.1 hc.1 _ hjr
      unfold pairOk at hp
      have hd0 := hd (i, k0) (by simp)
      dsimp only at hp hd0
      rw [hd0, Bool.false_or, Bool.and_eq_true, Bool.and_eq_true] at hp
      obtain ⟨⟨hk0, hk2⟩, hap⟩ := hp
      have hk0' : k0 = 0 := Nat.eq_of_beq_eq_true hk0
      have hk2' : k ≠ 2 := fun e => by subst e; simp at hk2
      subst hk0'
      obtain ⟨oi, hoi, h⟩ := h
      rcases h with ⟨_, v, h1, h2⟩ | ⟨h0, _⟩
      · obtain ⟨oj, T, hoj, h3, h4, h5⟩ := pull hsel r _ as h2 hc.2 hn.2 j k hjr fun p hp => hd p (by simp [hp])
        unfold apartB at hap
        rw [hoi, hoj] at hap
        obtain ⟨a1, a2, a3⟩ := Oper.apart_spec hap
        refine ⟨oj, T, hoj, ?_, h4, fun vj as' hT => ?_⟩
        · exact h3.congr (execOp_put oj (fun cs b => hsel j oj cs b hoj) a oi.dst v a1).symm (wanted_put oj a oi.dst v a1).symm
        · rw [List.filter_cons, if_pos (by simpa using hij)]
          refine ⟨oi, hoi, .inl ⟨rfl, v, ?_, ?_⟩⟩
          · exact (h1.mono (h4 hk2' vj as' hT)).congr (execOp_put oi (fun cs b => hsel i oi cs b hoi) a oj.dst vj a3) (wanted_put oi a oj.dst vj a3)
          · have := h5 vj as' hT
            rw [← Act.put_comm a v vj a2]
            exact this
      · exact absurd rfl h0
theorem wpOp_of_step {Q : Exit → Act → World → Prop} {i : Nat} {o : Oper} {a : Act} {as : List Asn} {T : Value → List Asn → Prop} {w : World} {K : Act → World → Prop} (hi : ops[i]? = some o) (h : Step P ops w0 o a as T) (hw : cls w0 as w)
    (hK : ∀ v as' w', T v as' → cls w0 as' w' → K (a.put o.dst v) w') : wpOp P ops Q i K a w := by
  unfold wpOp
  simp only [hi]
  rcases h with ⟨h1, h2⟩ | ⟨h1, h2⟩
  · rw [if_pos h1]
    refine .inl ?_
    have h3 := h2 w hw
    unfold Oper.wp
    generalize (execOp a.eval o).run P w = r at *
    cases r with
    | ok x w' =>
      cases x <;> simp only [StepAt] at h3 <;> simp only [Oper.upon]
      case value u => obtain ⟨as', h4, h5⟩ := h3; exact hK _ as' _ h4 h5
      case skip => obtain ⟨as', h4, h5⟩ := h3; exact hK _ as' _ h4 h5
      case enter f args =>
        exact h3.mono fun e w'' ⟨v, as', he, h4, h5⟩ => by subst he; exact hK _ as' _ h4 h5
      case row => exact Rows.mono h3 fun v w'' ⟨as', h4, h5⟩ => hK _ as' _ h4 h5
    | halt x w' => simp only [StepAt] at h3
  · rw [if_neg (by rw [h1]; exact Bool.false_ne_true)]
    obtain ⟨as', h3, h4⟩ := h2 w hw
    exact hK _ as' w h3 h4
/-- edges go back -/
def edgesBack (ops : Array Oper) : List Nat → Bool
  | [] => true
  | j :: r => (match ops[j]? with | some o => o.after.toList.all (fun e => !Region.binds .any e || Nat.blt e.on j) | none => false) && edgesBack ops r
theorem edgesBack_spec : ∀ {l : List Nat}, edgesBack ops l = true → ∀ j ∈ l, ∃ o, ops[j]? = some o ∧ ∀ e ∈ o.after.toList, Region.binds .any e = true → e.on < j
  | [], _, _, hj => by cases hj
  | i :: r, h, j, hj => by
    simp only [edgesBack, Bool.and_eq_true] at h
    rcases List.mem_cons.1 hj with rfl | hj
    · cases ho : ops[j]? with
      | none => rw [ho] at h; exact absurd h.1 Bool.false_ne_true
      | some o =>
        rw [ho] at h
        refine ⟨o, rfl, fun e he hb => ?_⟩
        have := List.all_eq_true.1 h.1 e he
        rw [hb] at this
        exact Nat.le_of_ble_eq_true (by simpa [Nat.blt] using this)
    · exact edgesBack_spec h.2 j hj
theorem getD_set (l : Array Bool) (i j : Nat) (d : Bool) : (l.setIfInBounds i true).getD j d = if i = j ∧ j < l.size then true else l.getD j d := by
  simp only [Array.getD_eq_getD_getElem?, Array.getElem?_setIfInBounds]
  by_cases h : i = j
  · subst h
    by_cases hs : i < l.size
    · simp [hs]
    · simp [hs]
  · simp [h]
theorem any_of {Q : Act → List Asn → Prop} {Q' : Exit → Act → World → Prop} (hsel : ∀ (j : Nat) (o : Oper) cs b, ops[j]? = some o → o.op ≠ .select cs b) (hb : edgesBack ops (List.range ops.size) = true) (hQ : ∀ a as w, Q a as → cls w0 as w → Q' .normal a w) :
    ∀ (fuel : Nat) (l : Ord) (listed : Array Bool) (a : Act) (as : List Asn) (w : World), l.length = fuel → listed.size = ops.size → (∀ i, i ∈ l.map Prod.fst ↔ i < ops.size ∧ listed.getD i true = false) → (l.map Prod.fst).Nodup → ClosedL ops listed → chk (tab ops) ops l = true →
      wpAS P ops w0 Q l a as → cls w0 as w → wpAny P .any ops Q' fuel listed a w := by
  intro fuel
  induction fuel with
  | zero =>
    intro l listed a as w hl hsz hmem hn hc hk h hw
    have hl0 : l = [] := List.eq_nil_of_length_eq_zero hl
    subst hl0
    refine ⟨?_, hQ _ _ _ h hw⟩
    rw [List.eq_nil_iff_forall_not_mem]
    intro j hj
    obtain ⟨h1, o, ho, _⟩ := mem_ready.1 hj
    have := (hmem j).2 ⟨(Array.getElem?_eq_some_iff.1 ho).1, h1⟩
    simp at this
  | succ fuel ih =>
    intro l listed a as w hl hsz hmem hn hc hk h hw
    refine ⟨fun h0 => ?_, fun j hj => ?_⟩
    · -- the least that is not listed is ready
      exfalso
      have hne : ∃ i, i < ops.size ∧ listed.getD i true = false := by
        cases l with
        | nil => simp at hl
        | cons p r => exact ⟨p.1, (hmem p.1).1 (by simp)⟩
      have hmin : ∀ n i, i ≤ n → i < ops.size → listed.getD i true = false → False := by
        intro n
        induction n with
        | zero =>
          intro i hi hs hu
          obtain rfl : i = 0 := by omega
          obtain ⟨o, ho, he⟩ := edgesBack_spec hb 0 (List.mem_range.2 hs)
          have : 0 ∈ Region.ready .any ops listed := mem_ready.2 ⟨hu, o, ho, fun e he' hb' => absurd (he e (by simpa using he') hb') (by omega)⟩
          rw [h0] at this; cases this
        | succ n ihn =>
          intro i hi hs hu
          obtain ⟨o, ho, he⟩ := edgesBack_spec hb i (List.mem_range.2 hs)
          have : i ∈ Region.ready .any ops listed := mem_ready.2 ⟨hu, o, ho, fun e he' hb' => by
            have h1 := he e (by simpa using he') hb'
            cases hu2 : listed.getD e.on true with
            | false => exact (ihn e.on (by omega) (by omega) hu2).elim
            | true =>
              have hlt : e.on < listed.size := by omega
              simp [hlt] at hu2 ⊢; exact hu2⟩
          rw [h0] at this; cases this
      obtain ⟨i, hi, hu⟩ := hne
      exact hmin i i (Nat.le_refl _) hi hu
    · obtain ⟨hun, o, ho, hall⟩ := mem_ready.1 hj
      have hjs : j < ops.size := (Array.getElem?_eq_some_iff.1 ho).1
      have hjl := (hmem j).2 ⟨hjs, hun⟩
      obtain ⟨⟨j', k⟩, hp, rfl⟩ := List.mem_map.1 hjl
      dsimp only at *
      have hdep : ∀ p ∈ l, depB (tab ops) j' p.1 = false := by
        intro p hp
        cases hd : depB (tab ops) j' p.1 with
        | false => rfl
        | true =>
          exfalso
          have hu := ((hmem p.1).1 (List.mem_map.2 ⟨p, hp, rfl⟩))
          unfold depB at hd
          cases hm : (tab ops)[j']? with
          | none => rw [List.getD_eq_getElem?_getD, hm] at hd; simp at hd
          | some m =>
            have hm' : (tab ops).getD j' 0 = m := by rw [List.getD_eq_getElem?_getD, hm]; rfl
            rw [hm'] at hd
            obtain ⟨o', ho', e, he, hbe, h1⟩ := tab_sound ops j' m hm p.1 hd
            rw [ho] at ho'
            obtain rfl : o = o' := by injection ho'
            have hle := hall e (by simpa using he) hbe
            have : listed.getD p.1 false = true := by
              rcases h1 with h1 | ⟨_, h1⟩
              · rw [← h1]; exact hle
              · exact dep_listed (tab_sound ops) hc e.on p.1 hle h1
            have h2 := hu.2
            have hlt : p.1 < listed.size := by omega
            simp [hlt] at this h2
            rw [this] at h2; cases h2
      obtain ⟨oj, T, hoj, hs, _, hr⟩ := pull (t := tab ops) hsel l a as h hk hn j' k hp hdep
      refine wpOp_of_step hoj hs hw fun v as' w' hT hw' => ?_
      refine ih _ _ _ as' w' ?_ (by simpa using hsz) ?_ ?_ ?_ (chk_filter _ hk) (hr v as' hT) hw'
      · have hcnt : ∀ (l : Ord), (l.map Prod.fst).Nodup → ∀ k, (j', k) ∈ l → (l.filter fun p => p.1 != j').length + 1 = l.length := by
          intro l
          induction l with
          | nil => intro _ k hk; cases hk
          | cons p r ihr =>
            intro hn k hk
            rw [List.map_cons, List.nodup_cons] at hn
            rcases List.mem_cons.1 hk with e | e
            · subst e
              rw [List.filter_cons, if_neg (by simp), filter_none hn.1]; simp
            · have hne : p.1 ≠ j' := fun h => hn.1 (h ▸ List.mem_map.2 ⟨_, e, rfl⟩)
              rw [List.filter_cons, if_pos (by simpa using hne), List.length_cons, List.length_cons, ihr hn.2 k e]
        have := hcnt l hn k hp
        omega
      · intro i
        rw [getD_set]
        constructor
        · intro hi
          obtain ⟨p, hp', rfl⟩ := List.mem_map.1 hi
          obtain ⟨h1, h2⟩ := List.mem_filter.1 hp'
          have h3 := (hmem p.1).1 (List.mem_map.2 ⟨p, h1, rfl⟩)
          have h4 : p.1 ≠ j' := by simpa using h2
          refine ⟨h3.1, ?_⟩
          rw [if_neg (fun hh => h4 hh.1.symm)]
          exact h3.2
        · rintro ⟨h1, h2⟩
          by_cases hij : j' = i
          · subst hij
            rw [if_pos ⟨rfl, by omega⟩] at h2
            cases h2
          · rw [if_neg (fun hh => hij hh.1)] at h2
            obtain ⟨p, hp', rfl⟩ := List.mem_map.1 ((hmem i).2 ⟨h1, h2⟩)
            exact List.mem_map.2 ⟨p, List.mem_filter.2 ⟨hp', by simpa using Ne.symm hij⟩, rfl⟩
      · exact (List.Sublist.map _ List.filter_sublist).nodup hn
      · intro i o' ho' hl' e he hbe
        rw [getD_set] at hl' ⊢
        split
        · rfl
        · by_cases hij : j' = i ∧ i < listed.size
          · obtain ⟨rfl, _⟩ := hij
            rw [ho] at ho'
            obtain rfl : o = o' := by injection ho'
            exact hall e (by simpa using he) hbe
          · rw [if_neg hij] at hl'
            exact hc i o' ho' hl' e he hbe
end
def nodupB : List Nat → Bool
  | [] => true
  | x :: r => !r.contains x && nodupB r
theorem nodupB_spec : ∀ {l : List Nat}, nodupB l = true → l.Nodup
  | [], _ => List.nodup_nil
  | x :: r, h => by
    simp only [nodupB, Bool.and_eq_true] at h
    exact List.nodup_cons.2 ⟨by simpa using h.1, nodupB_spec h.2⟩
/-- the order is one of all operations -/
def ordOk (ops : Array Oper) (l : Ord) : Bool := Region.noSelect ops && edgesBack ops (List.range ops.size) && chk (tab ops) ops l && Nat.beq l.length ops.size && (List.range ops.size).all (fun i => (l.map Prod.fst).contains i) && nodupB (l.map Prod.fst) && (l.map Prod.fst).all (fun i => Nat.blt i ops.size)
structure AS (P : Program) (n : Nat) (ops : List Oper) (w0 : World) (l : Ord) (ρ : Env) (as : List Asn) (K : Env → List Asn → Prop) : Prop where
  out : ∀ a, Fits n a ρ → wpAS P ops.toArray w0 (fun a' as' => ∃ ρ', Fits n a' ρ' ∧ K ρ' as') l a as
theorem g_add {P : Program} {f : FuncId} {n : Nat} {R : Ending → World → Prop} {k : List Item} {ρ : Env} {w0 : World} {as : List Asn} {id : Nat} {ops : List Oper} (l : Ord) (h : AS P n ops w0 l ρ as fun ρ' as' => Go P f n R k ρ' (cls w0 as'))
    (hm : P.follows .mixedOrders = true := by kernel_rfl) (hB : ordOk ops.toArray l = true := by kernel_rfl) : Go P f n R (.code (.region id ops.toArray true) :: k) ρ (cls w0 as) := by
  unfold ordOk at hB
  simp only [Bool.and_eq_true] at hB
  obtain ⟨⟨⟨⟨⟨⟨h1, h2⟩, h3⟩, h4⟩, h5⟩, h6⟩, h7⟩ := hB
  have hnd := nodupB_spec h6
  have hmem : ∀ i, i ∈ l.map Prod.fst ↔ i < ops.toArray.size := fun i => by
    refine ⟨fun hi => Nat.le_of_ble_eq_true (by simpa [Nat.blt] using List.all_eq_true.1 h7 i hi), fun hi => ?_⟩
    have := List.all_eq_true.1 h5 i (List.mem_range.2 hi)
    exact List.contains_iff_mem.1 this
  refine ⟨fun a w ha hw cs => ?_⟩
  have hwp : (Code.region id ops.toArray true).wp P (LPost n (Go P f n R k)) a w := by
    refine wp_region_any hm (any_of (Q := fun a' as' => ∃ ρ', Fits n a' ρ' ∧ Go P f n R k ρ' (cls w0 as')) (Region.noSelect_spec h1) h2 (fun a as w ⟨ρ', hf, hg⟩ hw => ⟨rfl, ρ', cls w0 as, hw, hf, hg⟩) _ l _ a as _ (Nat.eq_of_beq_eq_true h4) (by simp) (fun i => ?_) hnd (fun j o ho hl => ?_) h3 (h.out a ha) (cls.drew w hw))
    · rw [hmem]
      constructor
      · intro hi; exact ⟨hi, by simp at hi; simp [hi]⟩
      · exact fun hi => hi.1
    · have h0 : (Array.replicate ops.toArray.size false).getD j false = false := by
        rw [Array.getD_eq_getD_getElem?, Array.getElem?_replicate]; split <;> rfl
      rw [h0] at hl; cases hl
  obtain ⟨e, a', w', ⟨rfl, ρ', C', hC', ha', hk⟩, harr⟩ := hwp (base f) k cs
  exact of_steps harr (hk.out a' w' ha' hC' cs)
section
variable {P : Program} {n : Nat} {ops : List Oper} {w0 : World} {l : Ord} {ρ : Env} {as : List Asn} {K : Env → List Asn → Prop} {i : Nat} {o : Oper}
theorem a_nil (h : K ρ as) : AS P n ops w0 [] ρ as K := ⟨fun a ha => ⟨ρ, ha, h⟩⟩
theorem a_q (h : QS P n ops (cls w0 as) [o] ρ fun ρ' => AS P n ops w0 l ρ' as K) (ho : ops[i]? = some o := by rfl) : AS P n ops w0 ((i, 0) :: l) ρ as K := by
  refine ⟨fun a ha => ⟨o, by simpa using ho, .inl ⟨rfl, ?_⟩⟩⟩
  have := h.out a ha
  unfold wpQx at this
  cases hw : Region.wanted o (yielded ops.toArray a.tmps) with
  | true =>
    rw [if_pos hw] at this
    obtain ⟨v, h1, ρ', h2, h3⟩ := this
    exact ⟨v, .inl ⟨hw, h1⟩, h3.out _ h2⟩
  | false =>
    rw [if_neg (by rw [hw]; exact Bool.false_ne_true)] at this
    obtain ⟨ρ', h2, h3⟩ := this
    exact ⟨undef, .inr ⟨hw, rfl⟩, h3.out _ h2⟩
/-- behind an operation that makes memory -/
structure AFin (P : Program) (n : Nat) (ops : List Oper) (w0 : World) (k : Nat) (l : Ord) (as : List Asn) (K : Env → List Asn → Prop) (ρ' : Env) (C' : World → Prop) : Prop where
  out : ∃ as', C' = cls w0 as' ∧ (k ≠ 2 → as.Sublist as') ∧ AS P n ops w0 l ρ' as' K
theorem afin1 {as' : List Asn} (h : AS P n ops w0 l ρ as' K) (hs : as.Sublist as' := by first | exact List.Sublist.refl _ | exact .cons _ (List.Sublist.refl _) | exact .cons _ (.cons _ (List.Sublist.refl _)) | exact List.sublist_append_right _ _) : AFin P n ops w0 1 l as K ρ (cls w0 as') := ⟨as', rfl, fun _ => hs, h⟩
theorem afin2 {as' : List Asn} (h : AS P n ops w0 l ρ as' K) : AFin P n ops w0 2 l as K ρ (cls w0 as') := ⟨as', rfl, fun h => absurd rfl h, h⟩
theorem a_f {k : Nat} (hk : k ≠ 0) (h : LS P n (AFin P n ops w0 k l as K) ops [o] ρ (cls w0 as)) (ho : ops[i]? = some o) : AS P n ops w0 ((i, k) :: l) ρ as K := by
  refine ⟨fun a ha => ⟨o, by simpa using ho, .inr ⟨hk, fun v as' => (k ≠ 2 → as.Sublist as') ∧ wpAS P ops.toArray w0 (fun a' as' => ∃ ρ', Fits n a' ρ' ∧ K ρ' as') l (a.put o.dst v) as', ?_, fun hk2 v as' hT => hT.1 hk2, fun v as' hT => hT.2⟩⟩⟩
  cases hw : Region.wanted o (yielded ops.toArray a.tmps) with
  | true =>
    refine .inl ⟨hw, fun w hcw => ?_⟩
    have := h.out a w ha hcw
    unfold wpList at this
    rw [if_pos hw] at this
    have hno : ¬ (o.asks P a w ∧ LetsOut (LPost n (AFin P n ops w0 k l as K))) := by
      rintro ⟨_, a1, w1, h2⟩
      exact absurd h2.1 (by simp)
    have h3 := this.resolve_right hno
    unfold Oper.wp at h3
    have key : ∀ v w', LPost n (AFin P n ops w0 k l as K) .normal (a.put o.dst v) w' → ∃ as', ((k ≠ 2 → as.Sublist as') ∧ wpAS P ops.toArray w0 (fun a' as' => ∃ ρ', Fits n a' ρ' ∧ K ρ' as') l (a.put o.dst v) as') ∧ cls w0 as' w' := by
      rintro v w' ⟨_, ρ', C', h4, h5, ⟨as', rfl, h6, h7⟩⟩
      exact ⟨as', ⟨h6, h7.out _ h5⟩, h4⟩
    generalize (execOp a.eval o).run P w = r at *
    cases r with
    | ok x w' =>
      cases x <;> simp only [Oper.upon] at h3 <;> simp only [StepAt]
      case value u => exact key u w' h3
      case skip => exact key undef w' h3
      case enter F args =>
        refine Calls.mono h3 fun e w'' hh => ?_
        cases e with
        | returned v => obtain ⟨as', h4, h5⟩ := key v w'' hh; exact ⟨v, as', rfl, h4, h5⟩
        | panicked chain => exact absurd hh.1 (by simp)
        | outgrown => obtain ⟨a1, w1, h2⟩ := hh; exact absurd h2.1 (by simp)
      case row row args => exact Rows.mono h3 fun v w'' hh => key v w'' hh
      case defer d =>
        obtain ⟨_, ρ', C', h4, h5, _⟩ := h3
        have := h5.defers
        cases hd : o.dst <;> rw [hd] at this <;> simp [Act.put] at this
    | halt x w' =>
      cases x <;> simp only [Oper.upon] at h3
      case panic => exact absurd h3.1 (by simp)
  | false =>
    refine .inr ⟨hw, fun w hcw => ?_⟩
    have := h.out a w ha hcw
    unfold wpList at this
    rw [if_neg (by rw [hw]; exact Bool.false_ne_true)] at this
    obtain ⟨_, ρ', C', h4, h5, ⟨as', rfl, h6, h7⟩⟩ := this
    exact ⟨as', ⟨h6, h7.out _ h5⟩, h4⟩
theorem a_f1 (h : LS P n (AFin P n ops w0 1 l as K) ops [o] ρ (cls w0 as)) (ho : ops[i]? = some o := by rfl) : AS P n ops w0 ((i, 1) :: l) ρ as K := a_f (by decide) h ho
theorem a_f2 (h : LS P n (AFin P n ops w0 2 l as K) ops [o] ρ (cls w0 as)) (ho : ops[i]? = some o := by rfl) : AS P n ops w0 ((i, 2) :: l) ρ as K := a_f (by decide) h ho
end
theorem isR {P : Program} {f : FuncId} {n : Nat} {R : Ending → World → Prop} {k : List Item} {ρ : Env} {C : World → Prop} (id : Nat) {ops : Array Oper} (h : Go P f n R (.code (.region id ops true) :: k) ρ C) : Go P f n R (.code (.region id ops true) :: k) ρ C := h
theorem isAS {P : Program} {n : Nat} {ops : List Oper} {w0 : World} {l : Ord} {ρ : Env} {as : List Asn} {K : Env → List Asn → Prop} (h : AS P n ops w0 l ρ as K) : AS P n ops w0 l ρ as K := h
theorem isAF {P : Program} {n : Nat} {ops : List Oper} {w0 : World} {k : Nat} {l : Ord} {as : List Asn} {K : Env → List Asn → Prop} {ρ : Env} {C : World → Prop} (h : AFin P n ops w0 k l as K ρ C) : AFin P n ops w0 k l as K ρ C := h
end Go.G
