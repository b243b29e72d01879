/- The caller's law of a range over a function once more: the round's assignments may lay blocks. -/
import Derived.Test.YtnaehbgmfajdjaaRange
namespace Go.Proofs.Ytnaehbgmfajdjaa
open Go.RowKit

/-- THE CALLER's LAW, where the round's assignments may lay blocks (a loop variable that is boxed). -/
theorem wp_rangeA {P : Program} {g : Operand} {ps : Array Tmp} {assign body : Code} {Q : Exit → Act → World → Prop} {a : Act} {w : World} {gf : Nat} {fst cap : Array Value}
    (hg : a.eval g = .func (.func gf) fst cap) (eg : ∀ args w, (callFunc gf args).run P w = .ok (.enter gf args) w)
    {N : Nat} {arg : Nat → Array Value} {G : World → Prop} {Own : World → World → Prop} (hit : Iter P gf fst cap N arg G Own) (hps : ∀ k, (arg k).size = ps.size)
    (I Ix : Nat → World → Prop) (hG : ∀ k W, w.heap.size + 1 < W.heap.size → I k W → G W)
    (hOwn : ∀ W W' (j : Nat) (o : Obj), Own W W' → w.heap.size ≤ j → W.heap[j]? = some o → o.isCells = false → W'.heap[j]? = some o)
    (hI : ∀ k W W', I k W → Own W W' → I k W') (hIt : ∀ k W W', I k W → Turn (w.heap.size + 1) W W' → I k W') (hIxt : ∀ k W W', Ix k W → Turn (w.heap.size + 1) W W' → Ix k W')
    (h0 : ∀ W, Below w.heap.size w W → w.heap.size + 1 < W.heap.size → I 0 W)
    (hround : ∀ (fn : FuncId) (k : Nat) (W : World) (rec : LoopState → Option Code → Loop), k < N → I k W → w.heap.size + 1 < W.heap.size → W.heap[w.heap.size + 1]? = some (.loop (rec .ready none)) → W.heap[w.heap.size]? = some (.deferred (some [])) →
      rec = (fun st pe => { state := st, pending := pe, fn, tmps := a.tmps, params := ps, assign, body, defers := w.heap.size }) →
      assign.wpIn (Fence.wide.inRound (w.heap.size + 1)) 0 P (Exit.then (fun a₁ w₁ => w₁.heap[w.heap.size + 1]? = some (.loop (rec .ready none)) ∧
        body.wpIn (Fence.wide.inRound (w.heap.size + 1)) 0 P (roundP (w.heap.size + 1) w.heap.size (rec .busy none) (I (k + 1)) (Ix (k + 1))) a₁ (w₁.putObj (w.heap.size + 1) (.loop (rec .busy none)))) (fun _ _ _ => False))
        { tmps := (ps.zip (arg k)).foldl (fun t (p, v) => t.setIfInBounds p v) a.tmps, defers := [] } W)
    (hdone : ∀ W, I N W → w.heap.size + 1 < W.heap.size → W.heap[w.heap.size]? = some (.deferred (some [])) → Q .normal { a with defers := { target := .collected w.heap.size, args := #[] } :: a.defers } W)
    (hstop : ∀ k W, k ≤ N → Ix k W → w.heap.size + 1 < W.heap.size → W.heap[w.heap.size]? = some (.deferred (some [])) → Code.wp P .ret Q { a with defers := { target := .collected w.heap.size, args := #[] } :: a.defers } W) :
    (Code.rangeFunc g ps assign body).wp P Q a w := by
  refine wpIn_wide.1 (wpIn_rangeFunc (n := 0) ?_)
  intro fn hfn
  obtain ⟨rec, hrec⟩ : ∃ rec : LoopState → Option Code → Loop, rec = fun st pe => { state := st, pending := pe, fn, tmps := a.tmps, params := ps, assign, body, defers := w.heap.size } := ⟨_, rfl⟩
  obtain ⟨W1, hW1⟩ : ∃ W1, (w.alloc (.deferred (some []))).alloc (.loop (rec .ready none)) = W1 := ⟨_, rfl⟩
  have hL1 : W1.heap[w.heap.size + 1]? = some (.loop (rec .ready none)) := by
    rw [← hW1]; have := World.alloc_heap_new (w.alloc (.deferred (some []))) (.loop (rec .ready none)); rwa [World.size_alloc] at this
  have hK1 : W1.heap[w.heap.size]? = some (.deferred (some [])) := by
    rw [← hW1]; exact (Below.heap_alloc _ _ _ (by simp)).trans (World.alloc_heap_new w _)
  have hb1 : Below w.heap.size w W1 := by rw [← hW1]; exact ((Below.refl _ w).alloc (Nat.le_refl _) _).alloc (by simp) _
  have hz1 : w.heap.size + 1 < W1.heap.size := by rw [← hW1]; simp
  refine ⟨w.heap.size + 1, [{ target := .collected w.heap.size, args := #[] }], W1, { target := .fn (.func gf) cap, args := fst ++ #[.func (.yield (w.heap.size + 1)) #[] #[]] }, W1, gf,
    fst ++ #[.func (.yield (w.heap.size + 1)) #[] #[]] ++ cap, W1, ?_, ?_, ?_, ?_, (fun h => by cases h), ?_⟩
  · rw [← hW1, hrec]; exact run_enterLoop_outer _ _ _ _ _
  · simp only [resolve, hg]
    simp [go_sem]
  · intro f' _; trivial
  · simp [invoke, go_sem, eg]
  refine (hit (w.heap.size + 1)
    (fun k W => I k W ∧ w.heap.size + 1 < W.heap.size ∧ W.heap[w.heap.size + 1]? = some (.loop (rec .ready none)) ∧ W.heap[w.heap.size]? = some (.deferred (some [])))
    (fun k W => Ix k W ∧ w.heap.size + 1 < W.heap.size ∧ W.heap[w.heap.size + 1]? = some (.loop (rec .done (some .ret))) ∧ W.heap[w.heap.size]? = some (.deferred (some [])))
    (fun k W h => hG k W h.2.1 h.1) ?own ?round W1 ⟨h0 _ hb1 hz1, hz1, hL1, hK1⟩).mono ?after
  case own =>
    rintro k W W' ⟨hi, hz, hl, hk⟩ ho
    have hl' := hOwn W W' _ _ ho (by omega) hl rfl
    exact ⟨hI k W W' hi ho, (Array.getElem?_eq_some_iff.1 hl').1, hl', hOwn W W' _ _ ho (Nat.le_refl _) hk rfl⟩
  case round =>
    rintro k W hkN ⟨hi, hz, hl, hk⟩
    have hy := run_yield (P := P) (args := arg k) hl (by rw [hrec]; exact hps k)
    rw [hrec] at hy
    refine ⟨fn, _, assign, body, hy, roundIn_of_wpIn hfn ?_⟩
    have hr := hround fn k W rec hkN hi hz hl hk hrec
    refine wpIn_mono hr ?_
    intro e a1 w1 hp
    cases e with
    | normal =>
      obtain ⟨hl1, hbody⟩ := hp
      have hbr := run_beginRound (P := P) hl1 (by rw [hrec])
      refine ⟨_, hbr, ?_⟩
      have e1 : ({ rec .ready none with state := .busy } : Loop) = rec .busy none := by rw [hrec]
      rw [e1]
      refine wpIn_mono hbody ?_
      intro e a2 W2 hp2
      cases e with
      | normal =>
        obtain ⟨hl2, hk2, hi2⟩ := hp2
        have hlt := (Array.getElem?_eq_some_iff.1 hl2).1
        have her := run_endRound (P := P) none hl2
        have e2 : ({ rec .busy none with state := if (none : Option Code).isNone then .ready else .done, pending := none } : Loop) = rec .ready none := by rw [hrec]; rfl
        rw [e2] at her
        exact ⟨_, _, her, .inl ⟨rfl, hIt _ _ _ hi2 (Turn.put _ _ _), by simpa using hlt, World.putObj_heap_same hlt, (World.putObj_heap_other (by omega)).trans hk2⟩⟩
      | ret =>
        obtain ⟨hl2, hk2, hi2⟩ := hp2
        have hlt := (Array.getElem?_eq_some_iff.1 hl2).1
        have her := run_endRound (P := P) (some .ret) hl2
        have e2 : ({ rec .busy none with state := if (some Code.ret : Option Code).isNone then .ready else .done, pending := some .ret } : Loop) = rec .done (some .ret) := by rw [hrec]; rfl
        rw [e2] at her
        exact ⟨_, _, her, .inr ⟨rfl, hIxt _ _ _ hi2 (Turn.put _ _ _), by simpa using hlt, World.putObj_heap_same hlt, (World.putObj_heap_other (by omega)).trans hk2⟩⟩
      | exit id => exact hp2.elim
      | goto t => exact hp2.elim
      | panic ch => exact hp2.elim
      | outgrown => exact hp2.elim
    | ret => exact hp.elim
    | exit id => exact hp.elim
    | goto t => exact hp.elim
    | panic ch => exact hp.elim
    | outgrown => exact hp.elim
  case after =>
    rintro e W2 ⟨⟨v, rfl⟩, (⟨hi, hz, hl, hk⟩ | ⟨k, hkN, hi, hz, hl, hk⟩)⟩
    · have hel := run_endLoop (P := P) hl (by rw [hrec]; simp)
      have e2 : (rec .ready none).pending = none := by rw [hrec]
      rw [e2] at hel
      exact ⟨none, _, hel, hdone _ (hIt _ _ _ hi (Turn.put _ _ _)) (by simpa using hz) ((World.putObj_heap_other (by omega)).trans hk)⟩
    · have hel := run_endLoop (P := P) hl (by rw [hrec]; simp)
      have e2 : (rec .done (some .ret)).pending = some .ret := by rw [hrec]
      rw [e2] at hel
      exact ⟨some .ret, _, hel, wpIn_wide.2 (hstop k _ hkN (hIxt _ _ _ hi (Turn.put _ _ _)) (by simpa using hz) ((World.putObj_heap_other (by omega)).trans hk))⟩

end Go.Proofs.Ytnaehbgmfajdjaa
