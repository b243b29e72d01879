/- How the data of the laws lie in memory, and what a call may change: words for the walks. -/
import Derived.WalkKit
import Derived.Outline
import Derived.Lib.Hide
import Derived.Deep.QuietTactic
import Derived.BigQuiet
import Derived.StillTailTactics
import Derived.Deep.RegionHeld3
import Derived.BigRegion
import Derived.OwnWalk
import Derived.OneCell
import Derived.WalkSmall
import Derived.Laws.MakeOwn
import Derived.Test.YtnaehbgmfajdjaaProg
import Derived.Test.YtnaehbgmfajdjaaPure
namespace Go.Proofs.Ytnaehbgmfajdjaa
open Go.RowKit AimP

theorem ret_int {k : IntKind} {a b : Int} (h : a = b) : Ending.returned (.int k a) = .returned (.int k b) := by rw [h]
theorem ret_bool {a b : Bool} (h : a = b) : Ending.returned (.bool a) = .returned (.bool b) := by rw [h]

/-- Below block number N all is as it was, but for block b. -/
structure But (b N : Nat) (w w' : World) : Prop where
  os : w'.os = w.os
  tape : w'.tape = w.tape
  output : w'.output = w.output
  size : w.heap.size ≤ w'.heap.size
  block : ∀ k, k < N → k ≠ b → w'.heap[k]? = w.heap[k]?

namespace But
variable {b N : Nat} {a w w' w'' : World}
theorem refl (b N : Nat) (w : World) : But b N w w := ⟨rfl, rfl, rfl, Nat.le_refl _, fun _ _ _ => rfl⟩
theorem trans (h : But b N w w') (k : But b N w' w'') : But b N w w'' :=
  ⟨k.os.trans h.os, k.tape.trans h.tape, k.output.trans h.output, Nat.le_trans h.size k.size, fun i hi hb => (k.block i hi hb).trans (h.block i hi hb)⟩
theorem of (h : Below N w w') : But b N w w' := ⟨h.os, h.tape, h.output, h.size, fun k hk _ => h.block k hk⟩
theorem mono {N' : Nat} (h : But b N w w') (hN : N' ≤ N) : But b N' w w' := ⟨h.os, h.tape, h.output, h.size, fun k hk => h.block k (by omega)⟩
theorem below (h : But b N w w') (hb : N ≤ b) : Below N w w' := ⟨h.os, h.tape, h.output, h.size, fun k hk => h.block k hk (by omega)⟩
/-- Below a block that was made later than b, and b alone has turned: below b all is as it was. -/
theorem under (h : But b N w w') (hb : b ≤ N) : Below b w w' := ⟨h.os, h.tape, h.output, h.size, fun k hk => h.block k (by omega) (by omega)⟩
theorem drew (h : But b N a w) : But b N a w.drew := ⟨h.os, h.tape, h.output, h.size, h.block⟩
theorem drewN (h : But b N a w) (n : Nat) : But b N a (w.drewN n) := ⟨h.os, h.tape, h.output, h.size, h.block⟩
theorem alloc (h : But b N a w) (hN : N ≤ w.heap.size) (o : Obj) : But b N a (w.alloc o) := h.trans (.of ((Below.refl _ w).alloc hN o))
theorem setCell (h : But b N a w) {p : Addr} (hp : p.block = b ∨ N ≤ p.block) (u : Value) : But b N a (w.setCell p u) :=
  h.trans ⟨rfl, rfl, rfl, by simp [World.setCell], fun k hk hb => Below.heap_setCell _ _ _ _ (by omega)⟩
theorem grown {row : Option Nat} (h : But b N a w) (hg : w.grownBy w' row) (hN : N ≤ w.heap.size) (hr : ∀ k, row = some k → k = b ∨ N ≤ k) : But b N a w' :=
  h.trans ⟨hg.os, hg.tape, hg.output, hg.size, fun k hk hb => hg.block k (by omega) (fun e => by have := hr k e.symm; omega)⟩
theorem cell (h : But b N w w') {p : Addr} (hp : p.block < N) (hb : p.block ≠ b) : w'.cell? p = w.cell? p := World.cell?_of_block (w := w) (h.block p.block hp hb)
theorem frozen (h : But b N w w') {p : Addr} (hp : p.block < N) (hb : p.block ≠ b) : w'.frozen? p = w.frozen? p := World.frozen?_of_block (w := w) (h.block p.block hp hb)
end But

theorem bDrewN {N : Nat} {a w : World} (h : Below N a w) (n : Nat) : Below N a (w.drewN n) := ⟨h.os, h.tape, h.output, h.size, h.block⟩

/-- The beds of an aim lie from an address on. -/
def BedsAt (W : World) (b off : Nat) (l : List PBed) : Prop :=
  ∀ i x, l[i]? = some x → W.cell? ⟨b, off + i*3, none⟩ = some (.int .i64 x.bed) ∧ W.cell? ⟨b, off + i*3 + 1, none⟩ = some (.int .i64 x.low) ∧ W.cell? ⟨b, off + i*3 + 1 + 1, none⟩ = some (.int .i64 x.high)

/-- The aims of a law lie from an address on; all that they lead to lies below block n. -/
def AimsAt (n : Nat) (W : World) (b off : Nat) (l : List (Int × List PBed)) : Prop :=
  b < n ∧ ∀ i x, l[i]? = some x → W.cell? ⟨b, off + i*2, none⟩ = some (.int .i64 x.1) ∧ ∃ bb ob cb, W.cell? ⟨b, off + i*2 + 1, none⟩ = some (.slice (some ⟨bb, ob, none⟩) x.2.length cb) ∧ bb < n ∧ BedsAt W bb ob x.2

theorem BedsAt.same {W W' : World} {b off : Nat} {l : List PBed} (h : BedsAt W b off l) (hs : ∀ o, W'.cell? ⟨b, o, none⟩ = W.cell? ⟨b, o, none⟩) : BedsAt W' b off l :=
  fun i x hx => ⟨(hs _).trans (h i x hx).1, (hs _).trans (h i x hx).2.1, (hs _).trans (h i x hx).2.2⟩
theorem BedsAt.below {n : Nat} {W W' : World} {b off : Nat} {l : List PBed} (h : BedsAt W b off l) (hb : Below n W W') (hn : b < n) : BedsAt W' b off l :=
  h.same fun _ => hb.cell (p := ⟨b, _, none⟩) hn
theorem BedsAt.but {c n : Nat} {W W' : World} {b off : Nat} {l : List PBed} (h : BedsAt W b off l) (hb : But c n W W') (hn : b < n) (hc : b ≠ c) : BedsAt W' b off l :=
  h.same fun _ => hb.cell (p := ⟨b, _, none⟩) hn hc

theorem AimsAt.below {n : Nat} {W W' : World} {b off : Nat} {l : List (Int × List PBed)} (h : AimsAt n W b off l) (hb : Below n W W') : AimsAt n W' b off l :=
  ⟨h.1, fun i x hx => by
    obtain ⟨h1, bb, ob, cb, h2, h3, h4⟩ := h.2 i x hx
    exact ⟨(hb.cell (p := ⟨b, _, none⟩) h.1).trans h1, bb, ob, cb, (hb.cell (p := ⟨b, _, none⟩) h.1).trans h2, h3, h4.below hb h3⟩⟩
theorem AimsAt.mono {n m : Nat} {W : World} {b off : Nat} {l : List (Int × List PBed)} (h : AimsAt n W b off l) (hm : n ≤ m) : AimsAt m W b off l :=
  ⟨Nat.lt_of_lt_of_le h.1 hm, fun i x hx => by
    obtain ⟨h1, bb, ob, cb, h2, h3, h4⟩ := h.2 i x hx
    exact ⟨h1, bb, ob, cb, h2, Nat.lt_of_lt_of_le h3 hm, h4⟩⟩

theorem bcell {W w1 : World} {n : Nat} (hb : Below n W w1) : (∀ b o, b < n → w1.cell? ⟨b, o, none⟩ = W.cell? ⟨b, o, none⟩) ∧ (∀ b o, b < n → w1.frozen? ⟨b, o, none⟩ = W.frozen? ⟨b, o, none⟩) :=
  ⟨fun b o h => hb.cell (p := ⟨b, o, none⟩) h, fun b o h => hb.frozen (p := ⟨b, o, none⟩) h⟩

theorem cell_new (w : World) (cs : Array Value) (t : TypeId) (fr : Nat × Nat) (n j : Nat) (hn : n = w.heap.size) : (w.alloc (.cells cs t fr)).cell? ⟨n, j, none⟩ = cs[j]? := by
  subst hn
  unfold World.cell?
  rw [heap_alloc_new]
  simp
theorem cell_old (w : World) (o : Obj) (p : Addr) (h : p.block < w.heap.size) : (w.alloc o).cell? p = w.cell? p := ((Below.refl _ w).alloc (Nat.le_refl _) o).cell h
theorem frozen_new (w : World) (cs : Array Value) (t : TypeId) (n j : Nat) (hn : n = w.heap.size) : (w.alloc (.cells cs t)).frozen? ⟨n, j, none⟩ = false := by
  subst hn
  unfold World.frozen?
  rw [heap_alloc_new]
  simp
theorem frozen_old (w : World) (o : Obj) (p : Addr) (h : p.block < w.heap.size) : (w.alloc o).frozen? p = w.frozen? p := ((Below.refl _ w).alloc (Nat.le_refl _) o).frozen h

theorem infoInt : (Try.prog.info? 3).map (fun i => (i.zero, i.size, i.bytes)) = some (some (.int .i64 0), 1, 8) := by kernel_rfl

end Go.Proofs.Ytnaehbgmfajdjaa

namespace Go.Proofs.Ytnaehbgmfajdjaa
open Go.RowKit AimP

/-- A table lies at block bt: rules, a side, numbers in block bn; the law lies below block bn; both blocks lie below n. -/
structure TabAt (n : Nat) (W : World) (bt : Nat) (r : Rules) (best : Bool) (ba oa ca bn cn : Nat) (num : List Int) : Prop where
  lt : bt < n
  ne : bt ≠ bn
  c0 : W.cell? ⟨bt, 0, none⟩ = some (.int .i64 r.den)
  c1 : W.cell? ⟨bt, 1, none⟩ = some (.slice (some ⟨ba, oa, none⟩) r.aims.length ca)
  c2 : W.cell? ⟨bt, 2, none⟩ = some (.int .i64 (r.start : Int))
  c3 : W.cell? ⟨bt, 3, none⟩ = some (.int .i64 r.out)
  c4 : W.cell? ⟨bt, 4, none⟩ = some (.bool best)
  c5 : W.cell? ⟨bt, 5, none⟩ = some (.slice (some ⟨bn, 0, none⟩) num.length cn)
  aimsB : AimsAt bn W ba oa r.aims
  nlt : bn < n
  nums : ∀ i, i < num.length → W.cell? ⟨bn, i, none⟩ = some (.int .i64 (numOf num i))
  free : ∀ o, W.frozen? ⟨bn, o, none⟩ = false

namespace TabAt
variable {n m : Nat} {W W' : World} {bt : Nat} {r : Rules} {best : Bool} {ba oa ca bn cn : Nat} {num : List Int}
theorem aims (h : TabAt n W bt r best ba oa ca bn cn num) : AimsAt n W ba oa r.aims := h.aimsB.mono (Nat.le_of_lt h.nlt)
theorem below (h : TabAt n W bt r best ba oa ca bn cn num) (hb : Below n W W') : TabAt n W' bt r best ba oa ca bn cn num :=
  have k : ∀ o, W'.cell? ⟨bt, o, none⟩ = W.cell? ⟨bt, o, none⟩ := fun o => hb.cell (p := ⟨bt, o, none⟩) h.lt
  ⟨h.lt, h.ne, (k _).trans h.c0, (k _).trans h.c1, (k _).trans h.c2, (k _).trans h.c3, (k _).trans h.c4, (k _).trans h.c5, h.aimsB.below (hb.mono (Nat.le_of_lt h.nlt)), h.nlt,
    fun i hi => (hb.cell (p := ⟨bn, i, none⟩) h.nlt).trans (h.nums i hi), fun o => (hb.frozen (p := ⟨bn, o, none⟩) h.nlt).trans (h.free o)⟩
theorem mono (h : TabAt n W bt r best ba oa ca bn cn num) (hm : n ≤ m) : TabAt m W bt r best ba oa ca bn cn num :=
  ⟨Nat.lt_of_lt_of_le h.lt hm, h.ne, h.c0, h.c1, h.c2, h.c3, h.c4, h.c5, h.aimsB, Nat.lt_of_lt_of_le h.nlt hm, h.nums, h.free⟩
/-- One number is stored. -/
theorem set (h : TabAt n W bt r best ba oa ca bn cn num) (s : Nat) (v : Int) (hs : s < num.length) : TabAt n (W.setCell ⟨bn, s, none⟩ (.int .i64 v)) bt r best ba oa ca bn cn (num.set s v) :=
  have k : ∀ b o, b ≠ bn → (W.setCell ⟨bn, s, none⟩ (.int .i64 v)).cell? ⟨b, o, none⟩ = W.cell? ⟨b, o, none⟩ := fun b o hb => World.cell?_setCell_far _ _ _ _ (fun e => hb e.symm)
  ⟨h.lt, h.ne, (k _ _ h.ne).trans h.c0, (k _ _ h.ne).trans h.c1, (k _ _ h.ne).trans h.c2, (k _ _ h.ne).trans h.c3, (k _ _ h.ne).trans h.c4, by rw [List.length_set]; exact (k _ _ h.ne).trans h.c5,
    h.aimsB.below ((Below.refl bn W).setCell (p := ⟨bn, s, none⟩) (Nat.le_refl _) _), h.nlt, fun i hi => by
      rw [List.length_set] at hi
      by_cases e : i = s
      · subst e
        rw [World.cell?_setCell_same' _ _ _ (by rw [h.nums i hi]; rfl)]
        simp [numOf, hi]
      · rw [World.cell?_setCell_other _ _ _ _ (fun e' => e (by simp at e')), h.nums i hi]
        simp [numOf, List.getElem?_set_ne (Ne.symm e)], fun o => by rw [World.frozen?_setCell]; exact h.free o⟩
end TabAt

/-- A visit lies at block bv: the table at bt, the score s; what is known of values is right. -/
structure VisAt (W : World) (bv bt s : Nat) (V : Nat → Int → Int) : Prop where
  lt : bv < W.heap.size
  free : ∀ o, W.frozen? ⟨bv, o, none⟩ = false
  c0 : W.cell? ⟨bv, 0, none⟩ = some (.pointer (some ⟨bt, 0, none⟩))
  c1 : W.cell? ⟨bv, 1, none⟩ = some (.int .i64 (s : Int))
  known : ∀ d x : Nat, d ≤ 3 → x ≤ 60 → ∃ k : Int, W.cell? ⟨bv, 2 + d * 61 + x, none⟩ = some (.int .i64 k) ∧ (k = 0 ∨ k = V d x + 1)

theorem VisAt.same {W W' : World} {bv bt s : Nat} {V : Nat → Int → Int} (h : VisAt W bv bt s V) (hz : W.heap.size ≤ W'.heap.size) (hb : W'.heap[bv]? = W.heap[bv]?) : VisAt W' bv bt s V :=
  have k : ∀ o, W'.cell? ⟨bv, o, none⟩ = W.cell? ⟨bv, o, none⟩ := fun o => World.cell?_of_block (w := W) (a := ⟨bv, o, none⟩) hb
  ⟨Nat.lt_of_lt_of_le h.lt hz, fun o => (World.frozen?_of_block (w := W) (a := ⟨bv, o, none⟩) hb).trans (h.free o), (k _).trans h.c0, (k _).trans h.c1, fun d x hd hx => let ⟨q, h1, h2⟩ := h.known d x hd hx; ⟨q, (k _).trans h1, h2⟩⟩
theorem VisAt.below {n : Nat} {W W' : World} {bv bt s : Nat} {V : Nat → Int → Int} (h : VisAt W bv bt s V) (hb : Below n W W') (hn : bv < n) : VisAt W' bv bt s V := h.same hb.size (hb.block bv hn)
theorem VisAt.but {c n : Nat} {W W' : World} {bv bt s : Nat} {V : Nat → Int → Int} (h : VisAt W bv bt s V) (hb : But c n W W') (hn : bv < n) (hc : bv ≠ c) : VisAt W' bv bt s V := h.same hb.size (hb.block bv hn hc)

/-- Rules, by value. -/
def rulesV (r : Rules) (ba oa ca : Nat) : Value := .agg #[.int .i64 r.den, .slice (some ⟨ba, oa, none⟩) r.aims.length ca, .int .i64 (r.start : Int), .int .i64 r.out]

end Go.Proofs.Ytnaehbgmfajdjaa
