/- Laws that the call itself has laid: rows of aims, each with a row of beds of its own. -/
import Derived.Deep.AppendLies
import Derived.RangeFuncRecord
import Derived.Test.YtnaehbgmfajdjaaOrd
import Derived.Test.YtnaehbgmfajdjaaMem
namespace Go.Proofs.Ytnaehbgmfajdjaa
open Go.RowKit AimP

def bedCells : List PBed → List Value
  | [] => []
  | x :: l => .int .i64 x.bed :: .int .i64 x.low :: .int .i64 x.high :: bedCells l

theorem bedCells_length : ∀ l : List PBed, (bedCells l).length = l.length * 3
  | [] => rfl
  | x :: l => by simp [bedCells, bedCells_length l]; omega

theorem bedCells_get : ∀ (l : List PBed) (i : Nat) (x : PBed), l[i]? = some x → (bedCells l)[i * 3]? = some (.int .i64 x.bed) ∧ (bedCells l)[i * 3 + 1]? = some (.int .i64 x.low) ∧ (bedCells l)[i * 3 + 1 + 1]? = some (.int .i64 x.high)
  | [], i, x, h => by simp at h
  | y :: l, 0, x, h => by simp at h; subst h; simp [bedCells]
  | y :: l, i + 1, x, h => by
    have := bedCells_get l i x (by simpa using h)
    rw [show (i + 1) * 3 = i * 3 + 1 + 1 + 1 by omega]
    simpa [bedCells] using this

/-- The cells of an aim's beds, where they lie. -/
theorem bedCells_at {W : World} {b off : Nat} : ∀ {l : List PBed}, BedsAt W b off l → ∀ j u, (bedCells l)[j]? = some u → W.cell? ((⟨b, off, none⟩ : Addr).add j) = some u := by
  intro l h j u hu
  have hadd : (⟨b, off, none⟩ : Addr).add j = ⟨b, off + j, none⟩ := by unfold Addr.add; split <;> simp_all
  rw [hadd]
  have hj : j < l.length * 3 := by
    rw [← bedCells_length]
    exact (List.getElem?_eq_some_iff.1 hu).1
  have hi : j / 3 < l.length := by omega
  obtain ⟨x, hx⟩ : ∃ x, l[j / 3]? = some x := ⟨l[j / 3], by simp [hi]⟩
  obtain ⟨c0, c1, c2⟩ := h _ x hx
  obtain ⟨d0, d1, d2⟩ := bedCells_get l _ x hx
  have h3 : j % 3 = 0 ∨ j % 3 = 1 ∨ j % 3 = 2 := by omega
  rcases h3 with h3 | h3 | h3
  · have : j = j / 3 * 3 := by omega
    rw [this] at hu
    rw [d0] at hu
    rw [this, c0]; exact hu
  · have : j = j / 3 * 3 + 1 := by omega
    rw [this] at hu
    rw [d1] at hu
    rw [this, ← Nat.add_assoc, c1]; exact hu
  · have : j = j / 3 * 3 + 1 + 1 := by omega
    rw [this] at hu
    rw [d2] at hu
    rw [this, ← Nat.add_assoc, ← Nat.add_assoc, c2]; exact hu

theorem bedCells_one : ∀ (l : List PBed), ∀ u ∈ bedCells l, u.oneCell' = true
  | [], u, h => by simp [bedCells] at h
  | x :: l, u, h => by
    simp only [bedCells, List.mem_cons] at h
    rcases h with rfl | rfl | rfl | h
    · rfl
    · rfl
    · rfl
    · exact bedCells_one l u h

theorem infoBed : (Try.prog.info? 61).map (fun i => (i.zero, i.size, i.bytes)) = some (some (.agg #[.int .i64 0, .int .i64 0, .int .i64 0]), 3, 24) := by kernel_rfl
theorem infoAim : (Try.prog.info? 56).map (fun i => (i.zero, i.size, i.bytes)) = some (some (.agg #[.int .i64 0, .slice none 0 0]), 2, 32) := by kernel_rfl


theorem grown_below {w w' : World} {row : Option Nat} {N : Nat} (h : w.grownBy w' row) (hN : N ≤ w.heap.size) (hr : ∀ k, row = some k → N ≤ k) : Below N w w' :=
  ⟨h.os, h.tape, h.output, Nat.le_trans (Nat.le_refl _) h.size, fun k hk => h.block k (by omega) (fun e => by have := hr k e.symm; omega)⟩

theorem setCell_block {w : World} {b o : Nat} {cs : Array Value} {t : TypeId} {fr : Nat × Nat} {u : Value} (h : w.heap[b]? = some (.cells cs t fr)) : (w.setCell ⟨b, o, none⟩ u).heap[b]? = some (.cells (cs.setIfInBounds o u) t fr) := by
  have hlt := lt_of_block h
  have h' : w.heap[b] = .cells cs t fr := by simpa [Array.getElem?_eq_getElem hlt] using h
  show (w.heap.modify b _)[b]? = _
  rw [Array.getElem?_eq_getElem (by simpa using hlt), Array.getElem_modify_self, h']
  rfl

theorem alloc3 (w : World) (a b c : Obj) : (((w.alloc a).alloc b).alloc c).heap[w.heap.size]? = some a ∧ (((w.alloc a).alloc b).alloc c).heap[w.heap.size + 1]? = some b ∧ (((w.alloc a).alloc b).alloc c).heap[w.heap.size + 2]? = some c ∧
    (((w.alloc a).alloc b).alloc c).heap.size = w.heap.size + 3 ∧ Below w.heap.size w (((w.alloc a).alloc b).alloc c) := by
  have h1 := World.alloc_heap_new w a
  have h2 := World.alloc_heap_new (w.alloc a) b
  have h3 := World.alloc_heap_new ((w.alloc a).alloc b) c
  rw [World.size_alloc] at h2
  rw [World.size_alloc, World.size_alloc] at h3
  refine ⟨?_, ?_, h3, by simp, (((Below.refl _ _).alloc (Nat.le_refl _) _).alloc (by simp) _).alloc (by simp <;> omega) _⟩
  · rw [Below.heap_alloc _ _ _ (by simp <;> omega), Below.heap_alloc _ _ _ (by simp)]; exact h1
  · rw [Below.heap_alloc _ _ _ (by simp)]; exact h2

/-- What is owned hangs on its own block alone. -/
theorem owns_same {W W' : World} {lo : Nat} {e : TypeId} {size : Nat} {v : Value} {n : Nat} {xs : List Value} (h : W.ownsRow lo e size v n xs) (hb : ∀ g, v.ownBlock = some g → W'.heap[g]? = W.heap[g]?) : W'.ownsRow lo e size v n xs := by
  refine ⟨h.1, ?_⟩
  rcases h.2 with hn | ⟨g, cap, cur, rfl, h1, h2, h3⟩
  · exact .inl hn
  · exact .inr ⟨g, cap, cur, rfl, h1, (hb g rfl).trans h2, h3⟩

/-- An aim, and where its beds lie. -/
abbrev Laid := (Int × List PBed) × (Nat × Nat)

def aimCells : List Laid → List Value
  | [] => []
  | a :: l => .int .i64 a.1.1 :: .slice (some ⟨a.2.1, 0, none⟩) a.1.2.length a.2.2 :: aimCells l

theorem aimCells_append : ∀ l m : List Laid, aimCells (l ++ m) = aimCells l ++ aimCells m
  | [], _ => rfl
  | a :: l, m => by simp [aimCells, aimCells_append l m]

theorem aimCells_get : ∀ (l : List Laid) (i : Nat) (a : Laid), l[i]? = some a → (aimCells l)[i * 2]? = some (.int .i64 a.1.1) ∧ (aimCells l)[i * 2 + 1]? = some (.slice (some ⟨a.2.1, 0, none⟩) a.1.2.length a.2.2)
  | [], i, x, h => by simp at h
  | y :: l, 0, x, h => by simp at h; subst h; simp [aimCells]
  | y :: l, i + 1, x, h => by
    have := aimCells_get l i x (by simpa using h)
    rw [show (i + 1) * 2 = i * 2 + 1 + 1 by omega]
    simpa [aimCells] using this

structure OwnLaw (lo : Nat) (W : World) (v : Value) (L : List Laid) : Prop where
  own : W.ownsRow lo 56 2 v L.length (aimCells L)
  beds : ∀ a ∈ L, v.ownBlock ≠ some a.2.1 ∧ W.ownsRow lo 61 3 (.slice (some ⟨a.2.1, 0, none⟩) a.1.2.length a.2.2) a.1.2.length (bedCells a.1.2)
  apart : L.Pairwise fun a b => a.2.1 ≠ b.2.1

namespace OwnLaw
variable {lo : Nat} {W W' : World} {v : Value} {L : List Laid}
theorem nil (lo : Nat) (W : World) : OwnLaw lo W (.slice none 0 0) [] := ⟨World.ownsRow_nil _ _ _ _, fun _ h => (by cases h), .nil⟩
theorem same (h : OwnLaw lo W v L) (hb : ∀ k, lo ≤ k → k < W.heap.size → W'.heap[k]? = W.heap[k]?) : OwnLaw lo W' v L :=
  ⟨owns_same h.own fun g hg => have := h.own.lt g hg; hb g this.1 this.2, fun a ha => ⟨(h.beds a ha).1, owns_same (h.beds a ha).2 fun g hg => have := (h.beds a ha).2.lt g hg; hb g this.1 this.2⟩, h.apart⟩
theorem below (h : OwnLaw lo W v L) {n : Nat} (hb : Below n W W') (hn : W.heap.size ≤ n) : OwnLaw lo W' v L := h.same fun k _ hk => hb.block k (by omega)
theorem mono (h : OwnLaw lo W v L) {lo' : Nat} (hl : lo' ≤ lo) : OwnLaw lo' W v L := by
  have mono : ∀ {e : TypeId} {size : Nat} {v : Value} {n : Nat} {xs : List Value}, W.ownsRow lo e size v n xs → W.ownsRow lo' e size v n xs := fun h =>
    ⟨h.1, h.2.imp id fun ⟨g, cap, cur, h1, h2, h3⟩ => ⟨g, cap, cur, h1, Nat.le_trans hl h2, h3⟩⟩
  exact ⟨mono h.own, fun a ha => ⟨(h.beds a ha).1, mono (h.beds a ha).2⟩, h.apart⟩
theorem lt (h : OwnLaw lo W v L) : ∀ a ∈ L, lo ≤ a.2.1 ∧ a.2.1 < W.heap.size := fun a ha => (h.beds a ha).2.lt _ rfl

/-- One aim more. -/
theorem snoc {W3 W4 : World} {x : Int × List PBed} {g1 c1 g2 c2 : Nat} (h : OwnLaw lo W v L) (hb : Below W.heap.size W W3) (hg1 : W.heap.size ≤ g1)
    (hbeds : W3.ownsRow lo 61 3 (.slice (some ⟨g1, 0, none⟩) x.2.length c1) x.2.length (bedCells x.2)) (hgrow : W3.grownBy W4 v.ownBlock)
    (hown : W4.ownsRow lo 56 2 (.slice (some ⟨g2, 0, none⟩) (L.length + 1) c2) (L.length + 1) (aimCells L ++ [.int .i64 x.1, .slice (some ⟨g1, 0, none⟩) x.2.length c1]))
    (hat : v.ownBlock = some g2 ∨ W3.heap.size ≤ g2) : OwnLaw lo W4 (.slice (some ⟨g2, 0, none⟩) (L.length + 1) c2) (L ++ [(x, (g1, c1))]) := by
  have hz := hb.size
  have hl1 := (hbeds.lt g1 rfl).2
  refine ⟨?_, fun a ha => ?_, ?_⟩
  · rw [aimCells_append, List.length_append]; exact hown
  · rcases List.mem_append.1 ha with ha | ha
    · have h1 := h.lt a ha
      have h2 := h.beds a ha
      refine ⟨fun e => ?_, owns_same h2.2 fun g hg => ?_⟩
      · simp only [Value.ownBlock, Option.some.injEq] at e
        rcases hat with hat | hat
        · exact h2.1 (by rw [hat, e])
        · omega
      · simp only [Value.ownBlock, Option.some.injEq] at hg
        subst hg
        exact (hgrow.block _ (by omega) (fun e => h2.1 e.symm)).trans (hb.block _ h1.2)
    · rw [List.mem_singleton] at ha
      subst ha
      refine ⟨fun e => ?_, owns_same hbeds fun g hg => ?_⟩
      · simp only [Value.ownBlock, Option.some.injEq] at e
        rcases hat with hat | hat
        · have := (h.own.lt g2 hat).2; omega
        · omega
      · simp only [Value.ownBlock, Option.some.injEq] at hg
        subst hg
        exact hgrow.block _ hl1 (fun e => by have := (h.own.lt _ e.symm).2; omega)
  · rw [List.pairwise_append]
    refine ⟨h.apart, by simp, fun a ha b hb' => ?_⟩
    rw [List.mem_singleton] at hb'
    subst hb'
    have := (h.lt a ha).2
    simp only
    omega

/-- What is owned is laid. -/
theorem aimsAt {b c n : Nat} (h : OwnLaw lo W (.slice (some ⟨b, 0, none⟩) n c) L) : AimsAt W.heap.size W b 0 (L.map (·.1)) := by
  have hadd : ∀ b off j : Nat, (⟨b, off, none⟩ : Addr).add j = ⟨b, off + j, none⟩ := fun b off j => by unfold Addr.add; split <;> simp_all
  refine ⟨(h.own.lt b rfl).2, fun i x hx => ?_⟩
  simp only [List.getElem?_map, Option.map_eq_some_iff] at hx
  obtain ⟨a, ha, rfl⟩ := hx
  have hm := List.mem_of_getElem? ha
  obtain ⟨g1, g2⟩ := aimCells_get L i a ha
  have k1 := h.own.cells rfl _ _ g1
  have k2 := h.own.cells rfl _ _ g2
  rw [hadd] at k1 k2
  refine ⟨k1, a.2.1, 0, a.2.2, by rw [Nat.add_assoc]; exact k2, (h.lt a hm).2, fun j y hy => ?_⟩
  obtain ⟨d0, d1, d2⟩ := bedCells_get _ j y hy
  have e0 := (h.beds a hm).2.cells rfl _ _ d0
  have e1 := (h.beds a hm).2.cells rfl _ _ d1
  have e2 := (h.beds a hm).2.cells rfl _ _ d2
  rw [hadd] at e0 e1 e2
  exact ⟨e0, by rw [Nat.add_assoc]; exact e1, by rw [Nat.add_assoc, Nat.add_assoc] ; rw [Nat.add_assoc] at e2; exact e2⟩
end OwnLaw

end Go.Proofs.Ytnaehbgmfajdjaa
