/- double of the statements' package: the rules of the document's examples. -/
import Derived.Test.YtnaehbgmfajdjaaLay
import Derived.Test.YtnaehbgmfajdjaaKnownP
import Derived.Test.YtnaehbgmfajdjaaAll
namespace Go.Proofs.Ytnaehbgmfajdjaa
open Go.RowKit AimP

theorem double_ok (s : Nat) (h2 : 2 ≤ s) (h : s ≤ 60) : RulesOk (doubleP s) :=
  ⟨by show (1 : Int) ≤ 2; omega, by show (2 : Int) ≤ 3000; omega, by show 1 ≤ 1; omega, by show 1 ≤ 20; omega, fun a ha => by
    simp only [doubleP, List.mem_singleton] at ha
    subst ha
    exact ⟨by simp, by simp, by intro x hx; simp at hx; rcases hx with rfl | rfl <;> simp [doubleP], by simp [AimP.lows, doubleP], by simp [highs, doubleP], by intro x hx; simp at hx; rcases hx with rfl | rfl <;> simp⟩, h2, h, by show (0 : Int) ≤ 1; omega, by show (1 : Int) ≤ 2; omega⟩
theorem double_full (s : Nat) : LawFull (doubleP s).den (doubleP s).aims := fun a ha => by
  simp only [doubleP, List.mem_singleton] at ha
  subst ha
  refine ⟨⟨by simp, by simp, by intro x hx; simp at hx; rcases hx with rfl | rfl <;> simp [doubleP], by simp [AimP.lows, doubleP], by simp [highs, doubleP], by intro x hx; simp at hx; rcases hx with rfl | rfl <;> simp⟩, by simp, by decide, ?_, ?_⟩
  · intro x hx
    simp at hx
    rcases hx with rfl | rfl
    · exact .inl rfl
    · exact .inr (by decide)
  · intro i x y hx hy
    match i with
    | 0 => simp at hx hy; subst hx hy; simp
    | i + 1 => simp at hy
theorem single_ok (s : Nat) (h2 : 2 ≤ s) (h : s ≤ 60) : RulesOk (singleP s) :=
  ⟨by show (1 : Int) ≤ 2; omega, by show (2 : Int) ≤ 3000; omega, by show 1 ≤ 1; omega, by show 1 ≤ 20; omega, fun a ha => by
    simp only [singleP, List.mem_singleton] at ha
    subst ha
    exact ⟨by simp, by simp, by intro x hx; simp at hx; rcases hx with rfl | rfl | rfl <;> simp [singleP], by simp [AimP.lows, singleP], by simp [highs, singleP], by intro x hx; simp at hx; rcases hx with rfl | rfl | rfl <;> simp⟩, h2, h, by show (0 : Int) ≤ 1; omega, by show (1 : Int) ≤ 2; omega⟩
theorem single_full (s : Nat) : LawFull (singleP s).den (singleP s).aims := fun a ha => by
  simp only [singleP, List.mem_singleton] at ha
  subst ha
  refine ⟨⟨by simp, by simp, by intro x hx; simp at hx; rcases hx with rfl | rfl | rfl <;> simp [singleP], by simp [AimP.lows, singleP], by simp [highs, singleP], by intro x hx; simp at hx; rcases hx with rfl | rfl | rfl <;> simp⟩, by simp, by decide, ?_, ?_⟩
  · intro x hx
    simp at hx
    rcases hx with rfl | rfl | rfl
    · exact .inl rfl
    · exact .inr (by decide)
    · exact .inr (by decide)
  · intro i x y hx hy
    match i with
    | 0 => simp at hx hy; subst hx hy; simp
    | 1 => simp at hx hy; subst hx hy; simp
    | i + 2 => simp at hy

/-- One aim with beds out of two blocks that are known. -/
theorem aimsAt_one {W : World} {b g : Nat} {at0 : Int} {bl : List PBed} {n : Nat} (hn : bl.length = n) (h1 : W.heap[b]? = some (.cells #[.int .i64 at0, .slice (some ⟨g, 0, none⟩) n n] 56 (0, 0))) (h2 : W.heap[g]? = some (.cells (bedCells bl).toArray 61 (0, 0))) : AimsAt W.heap.size W b 0 [(at0, bl)] := by
  refine ⟨lt_of_block h1, fun i x hx => ?_⟩
  match i with
  | 0 =>
    simp at hx
    subst hx
    refine ⟨by simp [World.cell?, h1], g, 0, n, by simp [World.cell?, h1, hn], lt_of_block h2, fun j y hy => ?_⟩
    obtain ⟨d0, d1, d2⟩ := bedCells_get _ j y hy
    simp only [World.cell?, h2, Nat.zero_add]
    simp only [List.getElem?_toArray]
    exact ⟨by simpa using d0, by simpa using d1, by simpa using d2⟩
  | i + 1 => simp at hx

set_option maxRecDepth 100000 in
set_option maxHeartbeats 1000000 in
theorem double_any (s : Nat) (single : Bool) (w : World) : Calls Try.prog 57 #[.int .i64 s, .bool single] w
    fun e w' => ∃ b, e = .returned (rulesV (if single then singleP s else doubleP s) b 0 1) ∧ Below w.heap.size w w' ∧ AimsAt w'.heap.size w' b 0 (if single then singleP s else doubleP s).aims := by
  cases single with
  | false =>
    go_enter Try.func57, Try.ntmps57
    go_wp2
    obtain ⟨g0, g1, g2, gz, gb⟩ := alloc3 w (Obj.cells #[.int .i64 2, .slice (some ⟨w.heap.size + 1 + 1, 0, none⟩) 1 1, .int .i64 (s : Int), .int .i64 1] 31) (Obj.cells #[.int .i64 0, .int .i64 1, .int .i64 1, .int .i64 201, .int .i64 1, .int .i64 1] 61) (Obj.cells #[.int .i64 201, .slice (some ⟨w.heap.size + 1, 0, none⟩) 2 2] 56)
    obtain ⟨wz, hwz⟩ : ∃ wz, ((w.alloc (Obj.cells #[.int .i64 2, .slice (some ⟨w.heap.size + 1 + 1, 0, none⟩) 1 1, .int .i64 (s : Int), .int .i64 1] 31)).alloc (Obj.cells #[.int .i64 0, .int .i64 1, .int .i64 1, .int .i64 201, .int .i64 1, .int .i64 1] 61)).alloc (Obj.cells #[.int .i64 201, .slice (some ⟨w.heap.size + 1, 0, none⟩) 2 2] 56) = wz := ⟨_, rfl⟩
    rw [hwz] at g0 g1 g2 gz gb ⊢
    have y0 : wz.cell? ⟨w.heap.size, 0, none⟩ = some (.int .i64 2) := by simp [World.cell?, g0]
    have y1 : wz.cell? ⟨w.heap.size, 1, none⟩ = some (.slice (some ⟨w.heap.size + 1 + 1, 0, none⟩) 1 1) := by simp [World.cell?, g0]
    have y2 : wz.cell? ⟨w.heap.size, 2, none⟩ = some (.int .i64 (s : Int)) := by simp [World.cell?, g0]
    have y3 : wz.cell? ⟨w.heap.size, 3, none⟩ = some (.int .i64 1) := by simp [World.cell?, g0]
    refine bodyPost_ret (v := .agg #[.int .i64 2, .slice (some ⟨w.heap.size + 1 + 1, 0, none⟩) 1 1, .int .i64 (s : Int), .int .i64 1]) ?_ rfl ?_
    · simp [results, Try.results57, go_sem, y0, y1, y2, y3]
    · exact ⟨w.heap.size + 1 + 1, rfl, gb, aimsAt_one (bl := [⟨0, 1, 1⟩, ⟨201, 1, 1⟩]) rfl g2 g1⟩
  | true =>
    go_enter Try.func57, Try.ntmps57
    go_wp2
    have ga := World.alloc_heap_new w (Obj.cells #[.int .i64 2, .slice (some ⟨w.heap.size + 1 + 1 + 1, 0, none⟩) 1 1, .int .i64 (s : Int), .int .i64 1] 31)
    have gza := World.size_alloc w (Obj.cells #[.int .i64 2, .slice (some ⟨w.heap.size + 1 + 1 + 1, 0, none⟩) 1 1, .int .i64 (s : Int), .int .i64 1] 31)
    have gba := (Below.refl w.heap.size w).alloc (Nat.le_refl _) (Obj.cells #[.int .i64 2, .slice (some ⟨w.heap.size + 1 + 1 + 1, 0, none⟩) 1 1, .int .i64 (s : Int), .int .i64 1] 31)
    obtain ⟨wa, hwa⟩ : ∃ wa, w.alloc (Obj.cells #[.int .i64 2, .slice (some ⟨w.heap.size + 1 + 1 + 1, 0, none⟩) 1 1, .int .i64 (s : Int), .int .i64 1] 31) = wa := ⟨_, rfl⟩
    rw [hwa] at ga gza gba ⊢
    obtain ⟨_, g1, g2, gz, gb⟩ := alloc3 wa (Obj.cells #[.int .i64 0, .int .i64 1, .int .i64 1, .int .i64 201, .int .i64 1, .int .i64 1] 61) (Obj.cells #[.int .i64 0, .int .i64 0, .int .i64 1, .int .i64 101, .int .i64 0, .int .i64 1, .int .i64 201, .int .i64 1, .int .i64 1] 61) (Obj.cells #[.int .i64 201, .slice (some ⟨w.heap.size + 1 + 1, 0, none⟩) 3 3] 56)
    rw [gza] at g1 g2
    obtain ⟨wz, hwz⟩ : ∃ wz, ((wa.alloc (Obj.cells #[.int .i64 0, .int .i64 1, .int .i64 1, .int .i64 201, .int .i64 1, .int .i64 1] 61)).alloc (Obj.cells #[.int .i64 0, .int .i64 0, .int .i64 1, .int .i64 101, .int .i64 0, .int .i64 1, .int .i64 201, .int .i64 1, .int .i64 1] 61)).alloc (Obj.cells #[.int .i64 201, .slice (some ⟨w.heap.size + 1 + 1, 0, none⟩) 3 3] 56) = wz := ⟨_, rfl⟩
    rw [hwz] at g1 g2 gz gb ⊢
    have g0 : wz.heap[w.heap.size]? = _ := (gb.block _ (by omega)).trans ga
    have y0 : wz.cell? ⟨w.heap.size, 0, none⟩ = some (.int .i64 2) := by simp [World.cell?, g0]
    have y1 : wz.cell? ⟨w.heap.size, 1, none⟩ = some (.slice (some ⟨w.heap.size + 1 + 1 + 1, 0, none⟩) 1 1) := by simp [World.cell?, g0]
    have y2 : wz.cell? ⟨w.heap.size, 2, none⟩ = some (.int .i64 (s : Int)) := by simp [World.cell?, g0]
    have y3 : wz.cell? ⟨w.heap.size, 3, none⟩ = some (.int .i64 1) := by simp [World.cell?, g0]
    refine bodyPost_ret (v := .agg #[.int .i64 2, .slice (some ⟨w.heap.size + 1 + 1 + 1, 0, none⟩) 1 1, .int .i64 (s : Int), .int .i64 1]) ?_ rfl ?_
    · simp [results, Try.results57, go_sem, y0, y1, y2, y3]
    · exact ⟨w.heap.size + 1 + 1 + 1, rfl, gba.trans (gb.mono (by omega)), aimsAt_one (bl := [⟨0, 0, 1⟩, ⟨101, 0, 1⟩, ⟨201, 1, 1⟩]) rfl g2 g1⟩

end Go.Proofs.Ytnaehbgmfajdjaa
