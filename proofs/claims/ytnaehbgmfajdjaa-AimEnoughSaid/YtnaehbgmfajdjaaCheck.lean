/- isValid and Check of package throw, Check of package aim: valid rules are found valid. -/
import Derived.Test.YtnaehbgmfajdjaaSums
import Derived.RangeFuncCalls
namespace Go.Proofs.Ytnaehbgmfajdjaa
open Go.RowKit AimP

set_option maxRecDepth 100000 in
set_option maxHeartbeats 1000000 in
theorem isValid1_any (x : PBed) (den : Int) (c : Nat) (w : World) (h0 : 0 ≤ x.low) (h1 : x.low ≤ x.high) (h2 : x.high ≤ den) (hc : c < w.heap.size) (hd : w.cell? ⟨c, 2, none⟩ = some (.int .i64 den)) :
    Calls Try.prog 168 #[.agg #[.int .i64 x.bed, .int .i64 x.low, .int .i64 x.high], .pointer (some ⟨c, 0, none⟩)] w fun e w' => e = .returned (.bool false) ∧ Below w.heap.size w w' := by
  have hw := fun (W : World) (b : Nat) (hb : b < W.heap.size) (c0 : W.cell? ⟨b, 0, none⟩ = some (.int .i64 x.low)) (c1 : W.cell? ⟨b, 1, none⟩ = some (.int .i64 x.high)) =>
    within_throw 0 den b 0 2 2 (fun i => if i = 0 then x.low else x.high) W true hb (by decide) (fun i hi => by
      have : i = 0 ∨ i = 1 := by omega
      rcases this with rfl | rfl
      · exact c0
      · exact c1) ⟨fun _ i hi => by split <;> omega, fun _ => rfl⟩
  have HW := Lib.hid hw
  clear hw
  have hle : ¬ (x.high < x.low) := by omega
  go_enter Try.func168, Try.ntmps168
  go_wp2_with fail
  obtain ⟨wa, hwa⟩ : ∃ wa, (w.alloc (Obj.cells #[Value.int IntKind.i64 x.bed, .int .i64 x.low, .int .i64 x.high] 61)).alloc (Obj.cells #[.int .i64 x.low, .int .i64 x.high] 3) = wa := ⟨_, rfl⟩
  have hba : Below w.heap.size w wa := by rw [← hwa]; exact ((Below.refl _ _).alloc (Nat.le_refl _) _).alloc (by simp) _
  have za : wa.heap.size = w.heap.size + 1 + 1 := by rw [← hwa]; simp
  have a1 : wa.cell? ⟨w.heap.size, 1, none⟩ = some (.int .i64 x.low) := by rw [← hwa, cell_old _ _ _ (by simp), cell_new _ _ _ _ _ _ rfl]; rfl
  have a2 : wa.cell? ⟨w.heap.size, 2, none⟩ = some (.int .i64 x.high) := by rw [← hwa, cell_old _ _ _ (by simp), cell_new _ _ _ _ _ _ rfl]; rfl
  have b0 : wa.cell? ⟨w.heap.size + 1, 0, none⟩ = some (.int .i64 x.low) := by rw [← hwa, cell_new _ _ _ _ _ _ (by simp)]; rfl
  have b1 : wa.cell? ⟨w.heap.size + 1, 1, none⟩ = some (.int .i64 x.high) := by rw [← hwa, cell_new _ _ _ _ _ _ (by simp)]; rfl
  rw [hwa]
  refine (HW.out wa (w.heap.size + 1) (by omega) b0 b1).mono ?_
  rintro e w2 ⟨rfl, hb2⟩
  have d1 : w2.cell? ⟨w.heap.size, 1, none⟩ = some (.int .i64 x.low) := (hb2.cell (p := ⟨_, _, none⟩) (by simp only; omega)).trans a1
  have d2 : w2.cell? ⟨w.heap.size, 2, none⟩ = some (.int .i64 x.high) := (hb2.cell (p := ⟨_, _, none⟩) (by simp only; omega)).trans a2
  have HB := Lib.hid (hba.trans (hb2.mono hba.size))
  clear hba hb2 a1 a2 b0 b1 hwa za
  go_wp2
  go_ret
  exact ⟨ret_bool (by simpa using hle), HB.out⟩

set_option maxRecDepth 100000 in
set_option maxHeartbeats 1000000 in
theorem isValid_any (a : Int × List PBed) (den : Int) (bb ob cb : Nat) (w : World) (h : AimFull den a) (hd : 1 ≤ den) (hden : den ≤ 3000) (hbb : bb < w.heap.size) (hB : BedsAt w bb ob a.2) :
    Calls Try.prog 134 #[.agg #[.int .i64 a.1, .slice (some ⟨bb, ob, none⟩) a.2.length cb, .int .i64 den]] w fun e w' => e = .returned (.bool true) ∧ Below w.heap.size w w' := by
  have h1 := fun W (hW : Below w.heap.size w W) => areBeds_any a den bb ob cb W h (Nat.lt_of_lt_of_le hbb hW.size) (hB.below hW hbb)
  have h2 := fun W (hW : Below w.heap.size w W) => sums_any a den bb ob cb W h.ok (by omega) hden (Nat.lt_of_lt_of_le hbb hW.size) (hB.below hW hbb)
  have hbd : ∀ i, i < a.2.length → ∃ x, a.2[i]? = some x ∧ x ∈ a.2 := fun i hi => ⟨a.2[i], by simp [hi], List.getElem_mem hi⟩
  have hlen := h.ok.len
  have h3 := fun (c : Nat) (W : World) (hW : Below w.heap.size w W) (hcW : c < W.heap.size) (hcc : W.cell? ⟨c, 2, none⟩ = some (.int .i64 den)) =>
    contains_bed bb ob a.2.length cb (fun i => .int .i64 ((a.2[i]?.map PBed.bed).getD 0)) (fun i => .int .i64 ((a.2[i]?.map PBed.low).getD 0)) (fun i => .int .i64 ((a.2[i]?.map PBed.high).getD 0))
      168 #[.pointer (some ⟨c, 0, none⟩)] (fun _ => false) (fun W' => Below W.heap.size W W') W false (enters_of Try.func168 (by kernel_rfl) rfl) (by omega)
      (fun i W' hi hS => by
        obtain ⟨x, hx, hm⟩ := hbd i hi
        have := (hB.below (hW.trans (Below.mono hS hW.size)) hbb) i x hx
        simpa [hx] using this)
      (fun i W' hi hS => by
        obtain ⟨x, hx, hm⟩ := hbd i hi
        obtain ⟨s1, s2, s3⟩ := h.ok.small x hm
        have := isValid1_any x den c W' s1 s2 s3 (Nat.lt_of_lt_of_le hcW (Below.size hS)) ((Below.cell hS (p := ⟨c, 2, none⟩) hcW).trans hcc)
        rw [hx]
        exact this.mono fun e W2 hh => ⟨hh.1, Below.trans hS (Below.mono hh.2 (Below.size hS))⟩)
      (Below.refl _ _) (by simp)
  have h4 := fun (W : World) (b : Nat) (hb : b < W.heap.size) (c0 : W.cell? ⟨b, 0, none⟩ = some (.int .i64 den)) =>
    within_throw (lows a.2) (highs a.2) b 0 1 1 (fun _ => den) W true hb (by decide) (fun i hi => by rw [show i = 0 by omega]; exact c0) ⟨fun _ _ _ => ⟨h.ok.lows, h.ok.highs⟩, fun _ => rfl⟩
  have H1 := Lib.hid h1
  have H2 := Lib.hid h2
  have H3 := Lib.hid h3
  have H4 := Lib.hid h4
  obtain ⟨at', l⟩ := a
  simp only at H1 H2 H3 H4 hlen ⊢
  obtain ⟨lo, hlo⟩ : ∃ lo, lows l = lo := ⟨_, rfl⟩
  obtain ⟨hi, hhi⟩ : ∃ hi, highs l = hi := ⟨_, rfl⟩
  rw [hlo, hhi] at H2 H4
  clear h1 h2 h3 h4 h hB hbd hlo hhi
  go_enter Try.func134, Try.ntmps134
  go_wp2_with fail
  obtain ⟨wa, hwa⟩ : ∃ wa, w.alloc (Obj.cells #[Value.int IntKind.i64 at', .slice (some ⟨bb, ob, none⟩) l.length cb, .int .i64 den] 227) = wa := ⟨_, rfl⟩
  have hba : Below w.heap.size w wa := by rw [← hwa]; exact (Below.refl _ _).alloc (Nat.le_refl _) _
  have za : w.heap.size < wa.heap.size := by rw [← hwa]; simp
  have a0 : wa.cell? ⟨w.heap.size, 0, none⟩ = some (.int .i64 at') := by rw [← hwa, cell_new _ _ _ _ _ _ rfl]; rfl
  have a1 : wa.cell? ⟨w.heap.size, 1, none⟩ = some (.slice (some ⟨bb, ob, none⟩) l.length cb) := by rw [← hwa, cell_new _ _ _ _ _ _ rfl]; rfl
  have a2 : wa.cell? ⟨w.heap.size, 2, none⟩ = some (.int .i64 den) := by rw [← hwa, cell_new _ _ _ _ _ _ rfl]; rfl
  rw [hwa]
  refine (H1.out wa hba).mono ?_
  rintro e w1 ⟨rfl, hb1⟩
  have b1 : w1.cell? ⟨w.heap.size, 1, none⟩ = some (.slice (some ⟨bb, ob, none⟩) l.length cb) := (hb1.cell (p := ⟨_, _, none⟩) za).trans a1
  have HA := Lib.hid hba
  have HB1 := Lib.hid hb1
  have z1 := hb1.size
  clear hwa hba hb1
  go_wp2_with fail
  refine (H3.out w.heap.size w1 (HA.out.trans (HB1.out.mono HA.out.size)) (by omega) ((HB1.out.cell (p := ⟨_, _, none⟩) za).trans a2)).mono ?_
  rintro e w2 ⟨rfl, hb2⟩
  have hb12 := HB1.out.trans (hb2.mono z1)
  have e0 : w2.cell? ⟨w.heap.size, 0, none⟩ = some (.int .i64 at') := (hb12.cell (p := ⟨_, _, none⟩) za).trans a0
  have e1 : w2.cell? ⟨w.heap.size, 1, none⟩ = some (.slice (some ⟨bb, ob, none⟩) l.length cb) := (hb12.cell (p := ⟨_, _, none⟩) za).trans a1
  have e2 : w2.cell? ⟨w.heap.size, 2, none⟩ = some (.int .i64 den) := (hb12.cell (p := ⟨_, _, none⟩) za).trans a2
  have HB2 := Lib.hid hb12
  have z2 := hb2.size
  clear hb12 hb2 b1 a0 a1 a2
  go_wp2_with fail
  refine (H2.out w2 (HA.out.trans (HB2.out.mono HA.out.size))).mono ?_
  rintro e w3 ⟨rfl, hb3⟩
  have z3 := hb3.size
  have f2 : w3.cell? ⟨w.heap.size, 2, none⟩ = some (.int .i64 den) := (hb3.cell (p := ⟨_, _, none⟩) (by simp only; omega)).trans e2
  have HB3 := Lib.hid (HB2.out.trans (hb3.mono (by omega)))
  have zz3 : w.heap.size < w3.heap.size := by omega
  clear hb3 e0 e1 e2
  go_wp2_with fail
  obtain ⟨wc, hwc⟩ : ∃ wc, (w3.alloc (Obj.cells #[.int .i64 lo, .int .i64 hi] 59)).alloc (Obj.cells #[.int .i64 den] 3) = wc := ⟨_, rfl⟩
  have hbc : Below w3.heap.size w3 wc := by rw [← hwc]; exact ((Below.refl _ _).alloc (Nat.le_refl _) _).alloc (by simp) _
  rw [hwc]
  refine (H4.out wc (w3.heap.size + 1) (by rw [← hwc]; simp) (by rw [← hwc, cell_new _ _ _ _ _ _ (by simp)]; rfl)).mono ?_
  rintro e w4 ⟨rfl, hb4⟩
  have hb := HA.out.trans (((HB3.out.trans (hbc.mono (by omega))).trans (hb4.mono (by have := hbc.size; omega))).mono (by omega))
  have HB := Lib.hid hb
  clear hb hb4 hbc hwc
  go_wp2
  go_ret
  exact ⟨rfl, HB.out⟩

end Go.Proofs.Ytnaehbgmfajdjaa
