import Derived.Test.YtcjokckidpophaaGLib
import Derived.Shelf.SlIterI.Collect
import Derived.RangeFuncBound
import Derived.RangeFuncLeaves
import Derived.TacticsInMore
import Derived.WalkKit
set_option linter.all false
/-! slices.AppendSeq over an iterator that reads what lay before the call. -/
namespace Go.G
open Go.RowKit Go.Maps Go.Sort Go.Shelf Go.Proofs
variable {P : Program} {ρ : Ren}
/-- An iterator value gives xs, so the rounds keep what lay before. -/
def GivesAll (F : Fence) (n : Nat) (P : Program) (g : Nat) (lb : Array Value) (xs : List Int) (w : World) : Prop :=
  ∀ (l : Nat) (J : List Int → World → Prop) (W : World), (∀ s W1, J s W1 → Below w.heap.size w W1) →
    (∀ pre x W1, J pre W1 → pre.length < xs.length → YieldAt F (n - 1) P l #[encZ x] W1 fun e W' => e = .returned (.bool true) ∧ J (pre ++ [x]) W') → J [] W →
    CallsIn F n P g (#[.func (.yield l) #[] #[]] ++ lb) W fun e W' => (∃ v, e = .returned v) ∧ J xs W'
set_option maxRecDepth 100000 in
set_option maxHeartbeats 2000000 in
theorem appendSeq_all (L : SlLaysZI.n11 P ρ) (F : Fence) (n : Nat) (h11 : F.fn (ρ.f 11)) (hro : F.round = none) (hn : 2 ≤ n) (g : Nat) (lb : Array Value) (hFg : F.fn g) (eg : ∀ args w, (callFunc g args).run P w = .ok (.enter g args) w)
    (xs : List Int) (hNb : xs.length * 8 ≤ 140737488355328) (w : World) (hit : GivesAll F (n - 1) P g lb xs w) :
    CallsIn F n P (ρ.f 11) #[.slice none 0 0, .func (.func g) #[] lb] w fun e w' => ∃ v, e = .returned v ∧ w'.ownsRow w.heap.size (ρ.t 26) 1 v xs.length (xs.map encZ) ∧ Below w.heap.size w w' := by
  have h1 : 1 ≤ n := by omega
  have hN : xs.length ≤ maxLen := by unfold maxLen; omega
  have mixed := L.mixed; have t0 := L.t0; have a0 := L.a0; have z0 := L.z0; have v0 := L.v0; have t24 := L.t24; have a24 := L.a24; have z24 := L.z24; have v24 := L.v24; have t26 := L.t26; have a26 := L.a26; have z26 := L.z26; have v26 := L.v26; have t28 := L.t28; have a28 := L.a28; have z28 := L.z28; have v28 := L.v28
  have hne : ρ.t 24 ≠ ρ.t 26 := fun e => by have h := L.t24; rw [e, L.t26] at h; cases h
  have u0 := run_underlying L.t0; have u24 := run_underlying L.t24; have u26 := run_underlying L.t26; have u28 := run_underlying L.t28
  obtain ⟨_, _, FG⟩ := L.f11
  refine callsIn_of_wp_marks FG rfl h11 ?_ hro
  simp only [SlBodyZ.n11_ntmps ρ, List.size_toArray, List.length_cons, List.length_nil, Nat.reduceAdd, Nat.reduceSub, Array.replicate_succ, Array.replicate_zero, List.push_toArray, List.append_toArray, List.nil_append, List.cons_append]
  gi_wp2
  refine wpIn_rangeFunc fun fn hfn => ?_
  rw [hro]
  -- the box for s; then the block for deferred calls and the loop's record
  generalize hA : w.alloc (.cells #[.slice none 0 0] (ρ.t 24)) = A
  have sA : A.heap.size = w.heap.size + 1 := by rw [← hA]; simp
  have bA : A.heap[w.heap.size]? = some (.cells #[.slice none 0 0] (ρ.t 24) (0, 0)) := by rw [← hA]; exact World.alloc_heap_new w _
  have wA : Below w.heap.size w A := by rw [← hA]; exact (Below.refl _ w).alloc (Nat.le_refl _) _
  generalize hB : (A.alloc (.deferred (some []))).alloc (.loop (AnyZI.apRec ρ fn (.func (.func g) #[] lb) w.heap.size A.heap.size .ready none)) = B
  have keep : ∀ k, k < A.heap.size → B.heap[k]? = A.heap[k]? := fun k hk => by
    rw [← hB]; exact (Below.heap_alloc _ _ k (by simp; omega)).trans (Below.heap_alloc _ _ k hk)
  have wB : Below w.heap.size w B := by rw [← hB]; exact (wA.alloc wA.size _).alloc (by have := wA.size; simp; omega) _
  have rB : B.heap[A.heap.size + 1]? = some (.loop (AnyZI.apRec ρ fn (.func (.func g) #[] lb) w.heap.size A.heap.size .ready none)) := by
    have h := World.alloc_heap_new (A.alloc (.deferred (some []))) (.loop (AnyZI.apRec ρ fn (.func (.func g) #[] lb) w.heap.size A.heap.size .ready none))
    rw [World.size_alloc] at h
    rw [← hB]; exact h
  have dB : B.heap[A.heap.size]? = some (.deferred (some [])) := by rw [← hB]; exact (Below.heap_alloc _ _ _ (by simp)).trans (World.alloc_heap_new A _)
  have start : AnyZI.ApAt ρ w fn (.func (.func g) #[] lb) w.heap.size (A.heap.size + 1) A.heap.size [] B :=
    ⟨⟨_, (keep w.heap.size (by omega)).trans bA, ⟨rfl, .inl ⟨rfl, rfl⟩⟩, by simp⟩, rB, dB, wB⟩
  refine ⟨A.heap.size + 1, [{ target := .collected A.heap.size, args := #[] }], B, { target := .fn (.func g) lb, args := #[.func (.yield (A.heap.size + 1)) #[] #[]] }, B, g,
    #[.func (.yield (A.heap.size + 1)) #[] #[]] ++ lb, B, ?_, by simp [resolve, go_sem], ?_, by simp [invoke, go_sem, eg], fun _ => h1, ?_⟩
  · rw [← hB]; exact run_enterLoop_outer _ _ _ _ _
  · intro f' hf'; simp [Target.leads] at hf'; subst hf'; exact hFg
  have hr := hit (A.heap.size + 1) (AnyZI.ApAt ρ w fn (.func (.func g) #[] lb) w.heap.size (A.heap.size + 1) A.heap.size) B (fun _ _ h => h.below)
    (fun pre x W hJ hl => by
      obtain ⟨f1, t1, a1, b1, hy, hR⟩ := AnyZI.apYield { L with } F (n - 1 - 1) w fn hfn _ w.heap.size (A.heap.size + 1) A.heap.size (by omega) (by omega) (by omega) (Nat.le_refl _) (by omega) xs.length hN hNb pre x W hJ hl
      exact ⟨f1, t1, a1, b1, hy, hR.mono fun e W' h => ⟨h.1, h.2.1⟩⟩) start
  refine hr.mono ?_
  rintro e C ⟨⟨u, rfl⟩, hC⟩
  obtain ⟨v, hv, hrow, hnil⟩ := hC.box
  have hend := run_endLoop (P := P) hC.L (by simp [AnyZI.apRec])
  generalize hD : C.putObj (A.heap.size + 1) (.loop { AnyZI.apRec ρ fn (.func (.func g) #[] lb) w.heap.size A.heap.size .ready none with state := .exhausted }) = D at hend
  have gD : C.grownBy D (some (A.heap.size + 1)) := by rw [← hD]; exact grownBy_putObj_a _ _ _
  have vD : D.heap[w.heap.size]? = some (.cells #[v] (ρ.t 24) (0, 0)) := by rw [← hD]; exact (World.putObj_heap_other (by omega)).trans hv
  have kD : D.heap[A.heap.size]? = some (.deferred (some [])) := by rw [← hD]; exact (World.putObj_heap_other (by omega)).trans hC.K
  have rowD := hrow.kept gD (ownsRow_ne_a hrow hC.L (fun cur e => by first | cases e | exact hne (Obj.cells.inj e).2.1))
  have wD : Below w.heap.size w D := hC.below.grown gD hC.below.size (fun k e => by cases e; omega)
  obtain ⟨cD, fD⟩ := cell_of_box_a vD
  clear hD
  refine ⟨none, D, hend, ?_⟩
  gi_wp2
  rw [← sA]
  refine ⟨by simp, .inl ⟨_, _, rfl, run_takeDeferred kD, ?_⟩⟩
  exact ⟨_, results_tmp rfl _ _ _, v, rfl, rowD.kept (grownBy_putObj_a _ _ _) (ownsRow_ne_a rowD kD (fun cur e => by first | cases e | exact hne (Obj.cells.inj e).2.1)), wD.grown (grownBy_putObj_a _ _ _) wD.size (fun k e => by cases e; omega)⟩
theorem row_of_owns {w' : World} {B T sz n : Nat} {v : Value} {xs : List Value} (h : w'.ownsRow B T sz v n xs) : SL B w' [row v T sz xs] (fun k => v.ownBlock = some k) :=
  SL.one ⟨fun k => Iff.rfl, n, by
    refine ⟨h.1, ?_⟩
    rcases h.2 with h | ⟨g, cap, cur, h1, h2, h3⟩
    · exact .inl h
    · exact .inr ⟨g, cap, cur, h1, Nat.zero_le _, h3⟩⟩ fun b hb => h.lt b hb
end Go.G
