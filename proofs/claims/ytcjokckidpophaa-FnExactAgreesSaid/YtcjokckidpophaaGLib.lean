import Derived.Test.YtcjokckidpophaaGBits
import Derived.Test.YtcjokckidpophaaGAdd
import Derived.Shelf.SortG.Plain
import Derived.Shelf.SortG.SortNone
import Derived.Sort.OwnSortedInts
set_option linter.all false
namespace Go.G
open Go.RowKit Go.Proofs Go.Shelf
theorem flatMap_take {α : Type} (E : Enc α) : ∀ (l : List α) (k : Nat), (l.flatMap E.cells).take (k * E.sz) = (l.take k).flatMap E.cells
  | [], k => by simp
  | x :: l, 0 => by simp
  | x :: l, k + 1 => by
    have h1 : (E.cells x).length = E.sz := E.len x
    rw [List.flatMap_cons, List.take_succ_cons, List.flatMap_cons, List.take_append, h1, Nat.add_mul, Nat.one_mul, Nat.add_sub_cancel, flatMap_take E l k, List.take_of_length_le (by omega)]
theorem flatMap_drop {α : Type} (E : Enc α) : ∀ (l : List α) (k : Nat), (l.flatMap E.cells).drop (k * E.sz) = (l.drop k).flatMap E.cells
  | [], k => by simp
  | x :: l, 0 => by simp
  | x :: l, k + 1 => by
    have h1 : (E.cells x).length = E.sz := E.len x
    rw [List.flatMap_cons, List.drop_succ_cons, List.drop_append, h1, Nat.add_mul, Nat.one_mul, Nat.add_sub_cancel, flatMap_drop E l k, List.drop_of_length_le (by omega), List.nil_append]
/-- l2 written over l from k on -/
def over {α : Type} (l : List α) (k : Nat) (l2 : List α) : List α := l.take k ++ l2 ++ l.drop (k + l2.length)
theorem splice_over {α : Type} (E : Enc α) (l l2 : List α) (k : Nat) : splice (l.flatMap E.cells) (k * E.sz) (l2.flatMap E.cells) = (over l k l2).flatMap E.cells := by
  unfold splice over
  rw [flatMap_take, flatMap_len, ← Nat.add_mul, flatMap_drop, List.flatMap_append, List.flatMap_append]
theorem rowE_take {α : Type} {E : Enc α} {A : Option Addr} {c : Nat} {T : TypeId} {l : List α} {w : World} {F : Nat → Prop} (h : (rowE E A c T l).holds w F) (k : Nat) : (rowE E A c T (l.take k)).holds w F ∨ A = none := by
  obtain ⟨h0, n, hn⟩ := h
  rcases hn.2 with ⟨e1, e2⟩ | ⟨gb, cap, cur, e1, hb, hg', hnc, hcm, hcs, htk⟩
  · injection e1 with e1 _ _
    exact .inr e1
  · injection e1 with e1 _ e3
    subst e1 e3
    have e4 : n = l.length := by have := hn.1; rw [flatMap_len] at this; exact Nat.eq_of_mul_eq_mul_right E.pos this.symm
    subst e4
    refine .inl ⟨by simpa [Value.ownBlock] using h0, (l.take k).length, by rw [flatMap_len], .inr ⟨gb, c, cur, rfl, hb, hg', by rw [List.length_take]; omega, hcm, hcs, ?_⟩⟩
    rw [← flatMap_take, ← htk, List.take_take]
    congr 1
    rw [List.length_take, ← Nat.mul_min_mul_right]
theorem cls.take {α : Type} {E : Enc α} {A : Option Addr} {c : Nat} {T : TypeId} {l : List α} {w0 w : World} {bs : List Asn} (h : cls w0 (rowE E A c T l :: bs) w) (k : Nat) : cls w0 (rowE E A c T (l.take k) :: bs) w := by
  refine h.upd fun F hF hb => ⟨Chg.refl _ _, F, ?_, fun b hb' => ⟨.inl hb', (hb b hb').2⟩⟩
  rcases rowE_take hF k with h | rfl
  · exact h
  · have : l = [] := by
      obtain ⟨_, n, hn⟩ := hF
      rcases hn.2 with ⟨e1, e2⟩ | ⟨gb, cap, cur, e1, _⟩
      · injection e1 with _ e1 _; exact List.eq_nil_of_length_eq_zero (by omega)
      · injection e1 with e1; cases e1
    subst this
    simpa using hF
theorem rowE_over {α : Type} {E : Enc α} {A : Option Addr} {c : Nat} {T : TypeId} {l l2 : List α} {w : World} {F : Nat → Prop} (h : (rowE E A c T l).holds w F) (k : Nat) (hk : k + l2.length ≤ l.length) (h2 : 0 < l2.length) :
    ∃ gb cur, A = some ⟨gb, 0, none⟩ ∧ w.heap[gb]? = some (.cells cur T (0, 0)) ∧ k * E.sz + (l2.flatMap E.cells).length ≤ cur.size ∧
      (rowE E A c T (over l k l2)).holds (w.setRow gb (splice cur.toList (k * E.sz) (l2.flatMap E.cells)).toArray) F ∧ Chg F w (w.setRow gb (splice cur.toList (k * E.sz) (l2.flatMap E.cells)).toArray) := by
  obtain ⟨h0, n, hn⟩ := h
  have e4 : n = l.length := by have := hn.1; rw [flatMap_len] at this; exact Nat.eq_of_mul_eq_mul_right E.pos this.symm
  subst e4
  rcases hn.2 with ⟨e1, e2⟩ | ⟨gb, cap, cur, e1, hb, hg', hnc, hcm, hcs, htk⟩
  · omega
  · injection e1 with e1 _ e3
    subst e1 e3
    have hlen : (over l k l2).length = l.length := by simp [over]; omega
    have hne : k * E.sz + (l2.flatMap E.cells).length ≤ l.length * E.sz := by
      rw [flatMap_len, ← Nat.add_mul]; exact Nat.mul_le_mul_right _ hk
    have hm := Nat.mul_le_mul_right E.sz hnc
    have hcl : cur.toList.length = c * E.sz := by simpa using hcs
    refine ⟨gb, cur, rfl, hg', by rw [hcs]; omega, ⟨by rw [hlen]; exact h0, l.length, by rw [flatMap_len, hlen], .inr ⟨gb, c, _, by rw [hlen], hb, setRow_heap w gb cur _ T _ hg', hnc, hcm, ?_, ?_⟩⟩, (chg_setRow _).mono fun b _ hb => (h0 b).2 (by simp [Value.ownBlock, hb])⟩
    · simp only [splice, List.size_toArray, List.length_append, List.length_take, List.length_drop]
      omega
    · rw [← splice_over, ← htk]
      have := take_splice cur.toList (k * E.sz) (l.length * E.sz) (l2.flatMap E.cells) hne (by omega)
      simpa using this
/-! ### slices.Sort at int64, from the shelf -/
theorem sort_c {P : Program} {r : Go.Shelf.Ren} (L : SlLaysN.n53 P r) {A : Option Addr} {c : Nat} {T : TypeId} {xs : List Int} {w0 w : World} {bs : List Asn} (hw : cls w0 (rowE eI A c T xs :: bs) w) (hl : xs.length < 4611686018427387904) :
    RetC P (r.f 53) [.slice A xs.length c] w0 bs w (fun v new => v = .tuple #[] ∧ new = [rowE eI A c T (xs.mergeSort fun x y => decide (x ≤ y))]) := by
  obtain ⟨F, hF⟩ := hw.get (.head _)
  obtain ⟨h0, n, hn⟩ := hF
  have e4 : n = xs.length := by have := hn.1; rw [flatMap_len] at this; exact Nat.eq_of_mul_eq_mul_right eI.pos this.symm
  subst e4
  by_cases hz : xs = []
  · subst hz
    refine Calls.mono (AnyG.slices_Sort_int_none L A c w) ?_
    rintro e w' ⟨he, rfl⟩
    exact ⟨_, [rowE eI A c T []], he, ⟨rfl, by simp⟩, hw⟩
  · rcases hn.2 with ⟨e1, e2⟩ | ⟨gb, cap, cur, e1, hb, hg', hnc, hcm, hcs, htk⟩
    · exact absurd (List.eq_nil_of_length_eq_zero e2) hz
    · injection e1 with e1 _ e3
      subst e1 e3
      have hfm : ∀ l : List Int, l.flatMap eI.cells = l.map (Value.int .i64) := fun l => by
        induction l with
        | nil => rfl
        | cons x l ih => rw [List.flatMap_cons, List.map_cons, ih]; rfl
      rw [hfm] at htk
      have htk' : cur.toList.take xs.length = xs.map (Value.int .i64) := by
        have e : xs.length * eI.sz = xs.length := by simp [eI, eInt]
        rw [e] at htk; exact htk
      have hlt : gb < w.heap.size := (Array.getElem?_eq_some_iff.1 hg').1
      refine Calls.mono (AnyG.slices_Sort_int L gb 0 c xs w (holds_of_blockI hg' htk') hlt hl) ?_
      rintro e w' ⟨he, m, os, rfl⟩
      refine ⟨_, [rowE eI (some ⟨gb, 0, none⟩) c T (xs.mergeSort fun x y => decide (x ≤ y))], he, ⟨rfl, rfl⟩, ?_⟩
      have hlen : (xs.mergeSort fun x y => decide (x ≤ y)).length = xs.length := List.length_mergeSort _
      refine hw.upd fun F hF hbd => ⟨(Chg.of_grown (grownBy_sortedI _)).mono fun k _ hk => (hF.1 k).2 (by injection hk with hk; simp [Value.ownBlock, hk]), F, ⟨by rw [hlen]; exact hF.1, xs.length, ?_⟩, fun k hk => ⟨.inl hk, ?_⟩⟩
      · have := ownsRow_sortedI (w := w) (base := 0) (g := gb) (cap := c) (n := m) (e := T) (os := os) (cur := cur) (ss := xs) (ts := xs.mergeSort fun x y => decide (x ≤ y)) hlen (Nat.zero_le _) hg' hnc hcm (by rw [hcs]; rfl)
        rw [hfm, hlen]
        exact this
      · have h1 := (hbd k hk).2
        have h2 := (grownBy_sortedI (w := w) (g := gb) (n := m) (os := os) (xs.mergeSort fun x y => decide (x ≤ y)).toArray).size
        omega
/-! ### clear -/
section
variable {P : Program} {f : FuncId} {n : Nat} {R : Ending → World → Prop} {k : List Item} {Φ : Env → (World → Prop) → Prop} {ops l : List Oper} {ρ : Env} {w0 : World} {bs bs2 : List Asn}
  {ty : TypeId} {pos : String} {after : Array Edge} {g : Option (Nat × Bool)}
/-- clear of what lies behind the first j elements of a list of the call's own -/
theorem Lclr {α : Type} (i : Nat) (E : Enc α) (j : Nat) (bytes : Nat) {x : Operand} {t T c m' c' : Nat} {A : Option Addr} {l1 : List α}
    (k' : LS P n Φ ops l ρ (cls w0 (rowE E A c T (l1.take j ++ List.replicate (l1.length - j) E.zero) :: bs2)))
    (hp : pick i bs = some (rowE E A c T l1, bs2) := by rfl)
    (hg : want ops ρ g = some true := by rfl) (hx : ev ρ x = some (.slice (pAdd A c j E.sz) m' c') := by rfl) (hm : m' = l1.length - j := by first | rfl | (simp only [List.length_append, List.length_drop, Int.toNat_natCast]; omega))
    (ht : slTy P t T E.sz bytes = true := by kernel_rfl) (hz : (P.info? T).map (fun i => i.zero.map cellsL) = some (some (E.cells E.zero)) := by kernel_rfl) :
    LS P n Φ ops (⟨none, .call { callee := .builtin .clear, args := #[x], argTypes := #[t] }, ty, pos, after, g⟩ :: l) ρ (cls w0 bs) := by
  subst hm
  obtain ⟨hu, inf, hi, hisz, hib⟩ := slTy_spec ht
  rw [hi] at hz
  simp only [Option.map_some, Option.some.injEq] at hz
  obtain ⟨z, hzz, hzc⟩ := Option.map_eq_some_iff.1 hz
  refine ⟨fun a w ha hw => ?_⟩
  unfold wpList
  rw [if_pos (want_spec ha hg)]
  refine .inl ?_
  have hw1 := hw.pick hp
  obtain ⟨F, hF⟩ := hw1.get (.head _)
  have hcap := rowE_cap hF
  by_cases h0 : l1.length - j = 0
  · have hr : (execOp a.eval ⟨none, .call { callee := .builtin .clear, args := #[x], argTypes := #[t] }, ty, pos, after, g⟩).run P w = .ok (.value (.tuple #[])) w := by
      simp only [execOp, resolve, invoke, builtin, Sem.run_bind, Sem.run_pure, Result.andThen_ok, List.map_toArray, List.map_cons, List.map_nil, ha.eval hx, h0]
      cases pAdd A c j E.sz <;> simp [Builtin.clear_, run_underlying hu]
    unfold Oper.wp
    rw [hr]
    have e : l1.take j ++ List.replicate (l1.length - j) E.zero = l1 := by rw [h0, List.take_of_length_le (by omega)]; simp
    rw [e] at k'
    exact k'.out _ w ha hw1
  · have hj : j + (List.replicate (l1.length - j) E.zero).length ≤ l1.length := by simp; omega
    obtain ⟨gb, cur, rfl, hb, hfit, hh, hc⟩ := rowE_over hF j hj (by simp; omega)
    have eo : over l1 j (List.replicate (l1.length - j) E.zero) = l1.take j ++ List.replicate (l1.length - j) E.zero := by
      unfold over; rw [List.drop_of_length_le (by simp; omega), List.append_nil]
    rw [eo] at hh
    have hpa : pAdd (some ⟨gb, 0, none⟩) c j E.sz = some ⟨gb, j * E.sz, none⟩ := by
      unfold pAdd
      rw [if_neg (by omega)]
      have e4 : (⟨gb, 0, none⟩ : Addr).add (j * E.sz) = ⟨gb, j * E.sz, none⟩ := by unfold Addr.add; split <;> simp_all
      simp [e4]
    have hzc' : (Builtin.zeroCells z.cells (l1.length - j)).toList = (List.replicate (l1.length - j) E.zero).flatMap E.cells := by
      rw [cells_cellsL, hzc, ← made_cells]
      simp [Builtin.zeroCells, madeCells, E.len]
    have hst := run_storeCells_at (P := P) gb (j * E.sz) T ((List.replicate (l1.length - j) E.zero).flatMap E.cells) 0 cur w hb (by simpa using hfit) (fun v hv => by
      obtain ⟨q, _, hq⟩ := List.mem_flatMap.1 hv
      exact E.one q v hq)
    simp only [Nat.add_zero] at hst
    have hr : (execOp a.eval ⟨none, .call { callee := .builtin .clear, args := #[x], argTypes := #[t] }, ty, pos, after, g⟩).run P w = .ok (.value (.tuple #[])) (w.setRow gb (splice cur.toList (j * E.sz) ((List.replicate (l1.length - j) E.zero).flatMap E.cells)).toArray) := by
      simp only [execOp, resolve, invoke, builtin, Sem.run_bind, Sem.run_pure, Result.andThen_ok, List.map_toArray, List.map_cons, List.map_nil, ha.eval hx, hpa]
      obtain ⟨q, hq⟩ : ∃ q, l1.length - j = q + 1 := ⟨l1.length - j - 1, by omega⟩
      rw [hq] at hzc' hst ⊢
      simp [Builtin.clear_, run_underlying hu, zeroValue, typeInfo, hi, hzz, hzc', hst, splice]
    unfold Oper.wp
    rw [hr]
    refine k'.out _ _ ha (hw1.upd fun F' hF' hbd => ?_)
    obtain ⟨gb', cur', e1, hb', _, hh', hc'⟩ := rowE_over hF' j hj (by simp; omega)
    rw [eo] at hh'
    obtain rfl : gb = gb' := by injection e1 with e1; injection e1
    rw [hb] at hb'
    obtain rfl : cur = cur' := by injection hb' with hb'; injection hb'
    exact ⟨hc', F', hh', fun b hb2 => ⟨.inl hb2, by have := (hbd b hb2).2; simpa [World.setRow] using this⟩⟩
end
end Go.G
