/- isPosition and open of package aim at valid positions; slices.Min and slices.Index at integers. -/
import Derived.Test.YtnaehbgmfajdjaaTable
namespace Go.Proofs.Ytnaehbgmfajdjaa
open Go.RowKit AimP

/-- A valid position. -/
structure PosOk (r : Rules) (s left d : Nat) : Prop where
  s0 : lowest r.out ≤ (s : Int)
  s1 : s ≤ r.start
  l0 : lowest r.out ≤ (left : Int)
  l1 : left ≤ s
  d0 : 1 ≤ d
  d1 : d ≤ 3
  full : d < 3 ∨ left = s

def posV (s left d : Nat) : Value := .agg #[.int .i64 (s : Int), .int .i64 (left : Int), .int .i64 (d : Int)]

set_option maxRecDepth 100000 in
set_option maxHeartbeats 1000000 in
theorem isPosition_any (r : Rules) (ba oa ca s left d : Nat) (w : World) (hp : PosOk r s left d) :
    Calls Try.prog 95 #[rulesV r ba oa ca, posV s left d] w fun e w' => e = .returned (.bool true) ∧ Below w.heap.size w w' := by
  have h2 := fun (lo hi v : Int) (W : World) (b : Nat) (hb : b < W.heap.size) (c0 : W.cell? ⟨b, 0, none⟩ = some (.int .i64 v)) (hv : lo ≤ v ∧ v ≤ hi) =>
    within_aim lo hi b 0 1 1 (fun _ => v) W true hb (by decide) (fun i hi => by rw [show i = 0 by omega]; exact c0) ⟨fun _ _ _ => hv, fun _ => rfl⟩
  have h1 := fun W => lowest_any r.out (lowest r.out) W rfl
  obtain ⟨p1, p2, p3, p4, p5, p6, p7⟩ := hp
  unfold rulesV posV
  obtain ⟨den, hden⟩ : ∃ den, r.den = den := ⟨_, rfl⟩
  obtain ⟨lo, hlo⟩ : ∃ lo, lowest r.out = lo := ⟨_, rfl⟩
  rw [hlo] at h1 p1 p3
  obtain ⟨out, hout⟩ : ∃ out, r.out = out := ⟨_, rfl⟩
  rw [hout] at h1
  rw [hden, hout]
  have H1 := Lib.hid h1
  have H2 := Lib.hid h2
  clear h1 h2 hden hout hlo
  go_enter Try.func95, Try.ntmps95
  go_wp2_with fail
  obtain ⟨wa, hwa⟩ : ∃ wa, (w.alloc (Obj.cells #[Value.int IntKind.i64 den, Value.slice (some ⟨ba, oa, none⟩) r.aims.length ca, Value.int .i64 (r.start : Int), Value.int .i64 out] 31)).alloc (Obj.cells #[.int .i64 (s : Int), .int .i64 (left : Int), .int .i64 (d : Int)] 45) = wa := ⟨_, rfl⟩
  have hB : Below w.heap.size w wa := by rw [← hwa]; exact ((Below.refl _ _).alloc (Nat.le_refl _) _).alloc (by simp) _
  have za : w.heap.size + 1 < wa.heap.size := by rw [← hwa]; simp
  have a1 : wa.cell? ⟨w.heap.size, 2, none⟩ = some (.int .i64 (r.start : Int)) := by rw [← hwa, cell_old _ _ _ (by simp), cell_new _ _ _ _ _ _ rfl]; rfl
  have p0 : wa.cell? ⟨w.heap.size + 1, 0, none⟩ = some (.int .i64 (s : Int)) := by rw [← hwa, cell_new _ _ _ _ _ _ (by simp)]; rfl
  have q1 : wa.cell? ⟨w.heap.size + 1, 1, none⟩ = some (.int .i64 (left : Int)) := by rw [← hwa, cell_new _ _ _ _ _ _ (by simp)]; rfl
  have q2 : wa.cell? ⟨w.heap.size + 1, 2, none⟩ = some (.int .i64 (d : Int)) := by rw [← hwa, cell_new _ _ _ _ _ _ (by simp)]; rfl
  rw [hwa]
  have HB := Lib.hid hB
  clear hB hwa
  refine (H1.out wa).mono ?_
  rintro e w1 ⟨rfl, rfl⟩
  go_wp2_with fail
  obtain ⟨wc, hwc⟩ : ∃ wc, wa.alloc (Obj.cells #[.int .i64 (s : Int)] 3) = wc := ⟨_, rfl⟩
  have hbc : Below wa.heap.size wa wc := by rw [← hwc]; exact (Below.refl _ _).alloc (Nat.le_refl _) _
  rw [hwc]
  refine (H2.out lo r.start s wc wa.heap.size (by rw [← hwc]; simp) (by rw [← hwc, cell_new _ _ _ _ _ _ rfl]; rfl) (by omega)).mono ?_
  rintro e w2 ⟨rfl, hb2⟩
  have hb := hbc.trans (hb2.mono hbc.size)
  have b0 := (hb.cell (p := ⟨w.heap.size + 1, 0, none⟩) za).trans p0
  have b1 := (hb.cell (p := ⟨w.heap.size + 1, 1, none⟩) za).trans q1
  have b2 := (hb.cell (p := ⟨w.heap.size + 1, 2, none⟩) za).trans q2
  have z2 : w.heap.size + 1 < w2.heap.size := Nat.lt_of_lt_of_le za hb.size
  have HB2 := Lib.hid (HB.out.trans (hb.mono (by omega)))
  clear hb hb2 hbc hwc p0 q1 q2 a1 za
  go_wp2_with fail
  obtain ⟨wd, hwd⟩ : ∃ wd, w2.alloc (Obj.cells #[.int .i64 (left : Int)] 3) = wd := ⟨_, rfl⟩
  have hbd : Below w2.heap.size w2 wd := by rw [← hwd]; exact (Below.refl _ _).alloc (Nat.le_refl _) _
  rw [hwd]
  refine (H2.out lo s left wd w2.heap.size (by rw [← hwd]; simp) (by rw [← hwd, cell_new _ _ _ _ _ _ rfl]; rfl) (by omega)).mono ?_
  rintro e w3 ⟨rfl, hb3⟩
  have hb := hbd.trans (hb3.mono hbd.size)
  have c0 := (hb.cell (p := ⟨w.heap.size + 1, 0, none⟩) z2).trans b0
  have c1 := (hb.cell (p := ⟨w.heap.size + 1, 1, none⟩) z2).trans b1
  have c2 := (hb.cell (p := ⟨w.heap.size + 1, 2, none⟩) z2).trans b2
  have z3 : w.heap.size + 1 < w3.heap.size := Nat.lt_of_lt_of_le z2 hb.size
  have HB3 := Lib.hid (HB2.out.trans (hb.mono (by omega)))
  clear hb hb3 hbd hwd b0 b1 b2 z2
  go_wp2_with fail
  obtain ⟨we, hwe⟩ : ∃ we, w3.alloc (Obj.cells #[.int .i64 (d : Int)] 3) = we := ⟨_, rfl⟩
  have hbe : Below w3.heap.size w3 we := by rw [← hwe]; exact (Below.refl _ _).alloc (Nat.le_refl _) _
  rw [hwe]
  refine (H2.out 1 3 d we w3.heap.size (by rw [← hwe]; simp) (by rw [← hwe, cell_new _ _ _ _ _ _ rfl]; rfl) (by omega)).mono ?_
  rintro e w4 ⟨rfl, hb4⟩
  have hb := hbe.trans (hb4.mono hbe.size)
  have d0 := (hb.cell (p := ⟨w.heap.size + 1, 0, none⟩) z3).trans c0
  have d1 := (hb.cell (p := ⟨w.heap.size + 1, 1, none⟩) z3).trans c1
  have d2 := (hb.cell (p := ⟨w.heap.size + 1, 2, none⟩) z3).trans c2
  have HB4 := Lib.hid (HB3.out.trans (hb.mono (by omega)))
  clear hb hb4 hbe hwe c0 c1 c2
  by_cases h3 : d < 3
  · have h3' : (d : Int) < 3 := by omega
    go_wp2
    go_ret
    exact ⟨ret_bool (by simp <;> omega), HB4.out⟩
  · have h3' : ¬ ((d : Int) < 3) := by omega
    obtain rfl : left = s := by omega
    go_wp2
    go_ret
    exact ⟨ret_bool (by simp <;> omega), HB4.out⟩

set_option maxRecDepth 100000 in
set_option maxHeartbeats 1000000 in
theorem open_any (r : Rules) (ba oa ca s left d : Nat) (w : World) (hr : RulesOk r) (hf : LawFull r.den r.aims) (hA : AimsAt w.heap.size w ba oa r.aims) (hp : PosOk r s left d) :
    Calls Try.prog 52 #[rulesV r ba oa ca, posV s left d] w fun e w' => e = .returned (.int .i64 0) ∧ Below w.heap.size w w' := by
  have h1 := fun W (hW : Below w.heap.size w W) => check_aim r ba oa ca W hr hf ((hA.below hW).mono hW.size)
  have h2 := fun W => isPosition_any r ba oa ca s left d W hp
  unfold rulesV posV at *
  obtain ⟨den, hden⟩ : ∃ den, r.den = den := ⟨_, rfl⟩
  obtain ⟨out, hout⟩ : ∃ out, r.out = out := ⟨_, rfl⟩
  rw [hden, hout] at h1 h2 ⊢
  have H1 := Lib.hid h1
  have H2 := Lib.hid h2
  clear h1 h2 hr hf hA hp hden hout
  go_enter Try.func52, Try.ntmps52
  go_wp2_with fail
  obtain ⟨wa, hwa⟩ : ∃ wa, (w.alloc (Obj.cells #[Value.int IntKind.i64 den, Value.slice (some ⟨ba, oa, none⟩) r.aims.length ca, Value.int .i64 (r.start : Int), Value.int .i64 out] 31)).alloc (Obj.cells #[.int .i64 (s : Int), .int .i64 (left : Int), .int .i64 (d : Int)] 45) = wa := ⟨_, rfl⟩
  have hB : Below w.heap.size w wa := by rw [← hwa]; exact ((Below.refl _ _).alloc (Nat.le_refl _) _).alloc (by simp) _
  have za : w.heap.size + 1 < wa.heap.size := by rw [← hwa]; simp
  have za0 : w.heap.size < wa.heap.size := by omega
  have a0 : wa.cell? ⟨w.heap.size, 0, none⟩ = some (.int .i64 den) := by rw [← hwa, cell_old _ _ _ (by simp), cell_new _ _ _ _ _ _ rfl]; rfl
  have a1 : wa.cell? ⟨w.heap.size, 1, none⟩ = some (.slice (some ⟨ba, oa, none⟩) r.aims.length ca) := by rw [← hwa, cell_old _ _ _ (by simp), cell_new _ _ _ _ _ _ rfl]; rfl
  have a2 : wa.cell? ⟨w.heap.size, 2, none⟩ = some (.int .i64 (r.start : Int)) := by rw [← hwa, cell_old _ _ _ (by simp), cell_new _ _ _ _ _ _ rfl]; rfl
  have a3 : wa.cell? ⟨w.heap.size, 3, none⟩ = some (.int .i64 out) := by rw [← hwa, cell_old _ _ _ (by simp), cell_new _ _ _ _ _ _ rfl]; rfl
  have p0 : wa.cell? ⟨w.heap.size + 1, 0, none⟩ = some (.int .i64 (s : Int)) := by rw [← hwa, cell_new _ _ _ _ _ _ (by simp)]; rfl
  have p1 : wa.cell? ⟨w.heap.size + 1, 1, none⟩ = some (.int .i64 (left : Int)) := by rw [← hwa, cell_new _ _ _ _ _ _ (by simp)]; rfl
  have p2 : wa.cell? ⟨w.heap.size + 1, 2, none⟩ = some (.int .i64 (d : Int)) := by rw [← hwa, cell_new _ _ _ _ _ _ (by simp)]; rfl
  rw [hwa]
  refine (H1.out wa hB).mono ?_
  rintro e w1 ⟨rfl, hb1⟩
  have b0 := (hb1.cell (p := ⟨w.heap.size, 0, none⟩) za0).trans a0
  have b1 := (hb1.cell (p := ⟨w.heap.size, 1, none⟩) za0).trans a1
  have b2 := (hb1.cell (p := ⟨w.heap.size, 2, none⟩) za0).trans a2
  have b3 := (hb1.cell (p := ⟨w.heap.size, 3, none⟩) za0).trans a3
  have c0 := (hb1.cell (p := ⟨w.heap.size + 1, 0, none⟩) za).trans p0
  have c1 := (hb1.cell (p := ⟨w.heap.size + 1, 1, none⟩) za).trans p1
  have c2 := (hb1.cell (p := ⟨w.heap.size + 1, 2, none⟩) za).trans p2
  have HB1 := Lib.hid (hB.trans (hb1.mono hB.size))
  have z1 : w.heap.size ≤ w1.heap.size := HB1.out.size
  clear hwa hb1 a0 a1 a2 a3 p0 p1 p2 za za0 hB
  go_wp2_with fail
  refine (H2.out w1).mono ?_
  rintro e w2 ⟨rfl, hb2⟩
  have HB2 := Lib.hid (HB1.out.trans (hb2.mono z1))
  clear hb2 b0 b1 b2 b3 c0 c1 c2
  go_wp2
  go_ret
  exact ⟨rfl, HB2.out⟩

end Go.Proofs.Ytnaehbgmfajdjaa
