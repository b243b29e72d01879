/- A region that draws its order, whose operations only read, and whose callees leave all elder blocks as they were: walked once, in the order of the text. (By the kit's theorem on quiet regions, at the class of all such worlds.) -/
import Derived.BigQuiet
import Derived.Test.YtnaehbgmfajdjaaMem
namespace Go.Proofs.Ytnaehbgmfajdjaa
open Go.RowKit

/-- How far a world is from another one that it extends. -/
structure FarBy where
  d : Nat
  os : Array Obj
  deriving Inhabited

def far (w : World) (d : Nat) (os : Array Obj) : World := { w with heap := w.heap ++ os, drawn := d }

theorem below_far (w : World) (d : Nat) (os : Array Obj) : Below w.heap.size w (far w d os) :=
  ⟨rfl, rfl, rfl, by simp [far], fun k hk => by simp only [far]; rw [Array.getElem?_append_left hk]⟩

theorem far_of_below {w w' : World} (h : Below w.heap.size w w') : ∃ p : FarBy, w' = far w p.d p.os := by
  refine ⟨⟨w'.drawn, w'.heap.extract w.heap.size w'.heap.size⟩, ?_⟩
  obtain ⟨h1, h2, h3, h4, h5⟩ := h
  cases w with
  | mk heap tape drawn os output =>
    cases w' with
    | mk heap' tape' drawn' os' output' =>
      simp only at h1 h2 h3 h4 h5
      subst h1 h2 h3
      simp only [far, World.mk.injEq, and_true]
      apply Array.ext_getElem?
      intro i
      by_cases hi : i < heap.size
      · rw [Array.getElem?_append_left hi]; exact h5 i hi
      · rw [Array.getElem?_append_right (by omega)]
        simp only [Array.getElem?_extract]
        split
        · rw [show heap.size + (i - heap.size) = i by omega]
        · rw [Array.getElem?_eq_none (by omega)]

theorem wp_region_far {P : Program} {id : Nat} {Q : Exit → Act → World → Prop} {a : Act} {w : World} {l : List Oper} (hm : P.follows .mixedOrders = true) (hB : Region.lexB .any l.toArray = true)
    (h : wpQuiet P l.toArray (fun w' => ∃ p : FarBy, w' = far w p.d p.os) (fun a' => ∀ w', (∃ p : FarBy, w' = far w p.d p.os) → Q .normal a' w') l a) : (Code.region id l.toArray true).wp P Q a w :=
  wp_region_quiet (C := fun w' => ∃ p : FarBy, w' = far w p.d p.os) hm hB ⟨⟨w.drawn + 1, #[]⟩, by simp [far]⟩ (by simpa using h)

theorem cell_far {w : World} {a : Addr} {v : Value} (hb : a.block < w.heap.size) (h : w.cell? a = some v) (d : Nat) (os : Array Obj) : (far w d os).cell? a = some v :=
  ((below_far w d os).cell hb).trans h

/-- A callee's contract, met in a world of the class. -/
theorem Calls.far_of {P : Program} {f : FuncId} {args : Array Value} {w : World} {d : Nat} {os : Array Obj} {v : Value}
    (h : Calls P f args (far w d os) fun e w' => e = .returned v ∧ Below (far w d os).heap.size (far w d os) w') : Calls P f args (far w d os) fun e w'' => e = .returned v ∧ ∃ p : FarBy, w'' = far w p.d p.os :=
  h.mono fun _ _ ⟨he, hb⟩ => ⟨he, far_of_below ((below_far w d os).trans (hb.mono (below_far w d os).size))⟩

end Go.Proofs.Ytnaehbgmfajdjaa
