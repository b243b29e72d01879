/- Check and Table of package aim, at valid rules. -/
import Derived.Deep.DeepMust
import Derived.Deep.RegionWith
import Derived.Test.YtnaehbgmfajdjaaAll
namespace Go.Proofs.Ytnaehbgmfajdjaa
open Go.RowKit AimP

set_option maxRecDepth 100000 in
set_option maxHeartbeats 1000000 in
theorem check_aim (r : Rules) (ba oa ca : Nat) (w : World) (hr : RulesOk r) (hf : LawFull r.den r.aims) (hA : AimsAt w.heap.size w ba oa r.aims) :
    Calls Try.prog 50 #[rulesV r ba oa ca] w fun e w' => e = .returned (.int .i64 0) ∧ Below w.heap.size w w' := by
  have h1 := fun W (hW : Below w.heap.size w W) => check_throw r.den r.aims ba oa ca W hr.den1 hr.den hr.len1 hr.len hf ((hA.below hW).mono hW.size)
  have hst := hr.start
  have hst2 := hr.start2
  have ho0 := hr.out0
  have ho2 := hr.out
  have h2 := fun (lo hi v : Int) (W : World) (b : Nat) (hb : b < W.heap.size) (c0 : W.cell? ⟨b, 0, none⟩ = some (.int .i64 v)) (hv : lo ≤ v ∧ v ≤ hi) =>
    within_aim lo hi b 0 1 1 (fun _ => v) W true hb (by decide) (fun i hi => by rw [show i = 0 by omega]; exact c0) ⟨fun _ _ _ => hv, fun _ => rfl⟩
  unfold rulesV
  obtain ⟨den, hden⟩ : ∃ den, r.den = den := ⟨_, rfl⟩
  obtain ⟨out, hout⟩ : ∃ out, r.out = out := ⟨_, rfl⟩
  rw [hden] at h1 ⊢
  rw [hout] at ho0 ho2 ⊢
  have H1 := Lib.hid h1
  have H2 := Lib.hid h2
  clear h1 h2 hr hf hA hden hout
  go_enter Try.func50, Try.ntmps50
  go_wp2_with fail
  obtain ⟨wa, hwa⟩ : ∃ wa, w.alloc (Obj.cells #[Value.int IntKind.i64 den, Value.slice (some ⟨ba, oa, none⟩) r.aims.length ca, Value.int .i64 (r.start : Int), Value.int .i64 out] 31) = wa := ⟨_, rfl⟩
  have hB : Below w.heap.size w wa := by rw [← hwa]; exact (Below.refl _ _).alloc (Nat.le_refl _) _
  have za : w.heap.size < wa.heap.size := by rw [← hwa]; simp
  have a2 : wa.cell? ⟨w.heap.size, 2, none⟩ = some (.int .i64 (r.start : Int)) := by rw [← hwa, cell_new _ _ _ _ _ _ rfl]; rfl
  have a3 : wa.cell? ⟨w.heap.size, 3, none⟩ = some (.int .i64 out) := by rw [← hwa, cell_new _ _ _ _ _ _ rfl]; rfl
  rw [hwa]
  refine (H1.out wa hB).mono ?_
  rintro e w1 ⟨rfl, hb1⟩
  have b2 := (hb1.cell (p := ⟨w.heap.size, 2, none⟩) za).trans a2
  have b3 := (hb1.cell (p := ⟨w.heap.size, 3, none⟩) za).trans a3
  have z1 : w.heap.size < w1.heap.size := Nat.lt_of_lt_of_le za hb1.size
  have HB1 := Lib.hid (hB.trans (hb1.mono hB.size))
  clear hwa hb1 a2 a3 za hB
  go_wp2_with fail
  obtain ⟨wc, hwc⟩ : ∃ wc, w1.alloc (Obj.cells #[.int .i64 (r.start : Int)] 3) = wc := ⟨_, rfl⟩
  have hbc : Below w1.heap.size w1 wc := by rw [← hwc]; exact (Below.refl _ _).alloc (Nat.le_refl _) _
  rw [hwc]
  refine (H2.out 2 60 r.start wc w1.heap.size (by rw [← hwc]; simp) (by rw [← hwc, cell_new _ _ _ _ _ _ rfl]; rfl) (by omega)).mono ?_
  rintro e w2 ⟨rfl, hb2⟩
  have hb12 := hbc.trans (hb2.mono hbc.size)
  have c3 := (hb12.cell (p := ⟨w.heap.size, 3, none⟩) z1).trans b3
  have HB2 := Lib.hid (HB1.out.trans (hb12.mono (by omega)))
  have z2 : w.heap.size < w2.heap.size := Nat.lt_of_lt_of_le z1 hb12.size
  clear hbc hb2 hb12 hwc b2 b3 z1
  go_wp2_with fail
  obtain ⟨wd, hwd⟩ : ∃ wd, w2.alloc (Obj.cells #[.int .i64 out] 3) = wd := ⟨_, rfl⟩
  have hbd : Below w2.heap.size w2 wd := by rw [← hwd]; exact (Below.refl _ _).alloc (Nat.le_refl _) _
  rw [hwd]
  refine (H2.out 0 2 out wd w2.heap.size (by rw [← hwd]; simp) (by rw [← hwd, cell_new _ _ _ _ _ _ rfl]; rfl) (by omega)).mono ?_
  rintro e w3 ⟨rfl, hb3⟩
  have HB3 := Lib.hid (HB2.out.trans ((hbd.trans (hb3.mono hbd.size)).mono (by omega)))
  clear hbd hb3 hwd c3
  go_wp2
  go_ret
  exact ⟨rfl, HB3.out⟩

set_option maxRecDepth 100000 in
set_option maxHeartbeats 1000000 in
theorem table_any (r : Rules) (ba oa ca : Nat) (w : World) (hr : RulesOk r) (hf : LawFull r.den r.aims) (hA : AimsAt w.heap.size w ba oa r.aims) :
    Calls Try.prog 13 #[rulesV r ba oa ca] w fun e w' => ∃ bu bl, e = .returned (.tuple #[.slice (some ⟨bu, 0, none⟩) (r.start + 1) (r.start + 1), .slice (some ⟨bl, 0, none⟩) (r.start + 1) (r.start + 1), .int .i64 0]) ∧
      Below w.heap.size w w' ∧ w.heap.size < bu ∧ w.heap.size < bl ∧ bu < w'.heap.size ∧ bl < w'.heap.size ∧ (∀ i, i < r.start + 1 → w'.cell? ⟨bu, i, none⟩ = some (.int .i64 (numOf (table r false) i))) ∧ (∀ i, i < r.start + 1 → w'.cell? ⟨bl, i, none⟩ = some (.int .i64 (numOf (table r true) i))) := by
  have h1 := fun W (hW : Below w.heap.size w W) => check_aim r ba oa ca W hr hf ((hA.below hW).mono hW.size)
  have h2 := fun best W (hW : Below w.heap.size w W) => filled_any r best ba oa ca W hr ((hA.below hW).mono hW.size)
  have hst := hr.start
  have hlu := table_length r false
  have hll := table_length r true
  unfold rulesV at h1 h2 ⊢
  obtain ⟨den, hden⟩ : ∃ den, r.den = den := ⟨_, rfl⟩
  obtain ⟨out, hout⟩ : ∃ out, r.out = out := ⟨_, rfl⟩
  rw [hden, hout] at h1 h2 ⊢
  have H1 := Lib.hid h1
  have H2 := Lib.hid h2
  clear h1 h2 hr hf hA hden hout
  go_enter Try.func13, Try.ntmps13
  go_wp2_with fail
  obtain ⟨wa, hwa⟩ : ∃ wa, w.alloc (Obj.cells #[Value.int IntKind.i64 den, Value.slice (some ⟨ba, oa, none⟩) r.aims.length ca, Value.int .i64 (r.start : Int), Value.int .i64 out] 31) = wa := ⟨_, rfl⟩
  have hB : Below w.heap.size w wa := by rw [← hwa]; exact (Below.refl _ _).alloc (Nat.le_refl _) _
  have za : w.heap.size < wa.heap.size := by rw [← hwa]; simp
  have a0 : wa.cell? ⟨w.heap.size, 0, none⟩ = some (.int .i64 den) := by rw [← hwa, cell_new _ _ _ _ _ _ rfl]; rfl
  have a1 : wa.cell? ⟨w.heap.size, 1, none⟩ = some (.slice (some ⟨ba, oa, none⟩) r.aims.length ca) := by rw [← hwa, cell_new _ _ _ _ _ _ rfl]; rfl
  have a2 : wa.cell? ⟨w.heap.size, 2, none⟩ = some (.int .i64 (r.start : Int)) := by rw [← hwa, cell_new _ _ _ _ _ _ rfl]; rfl
  have a3 : wa.cell? ⟨w.heap.size, 3, none⟩ = some (.int .i64 out) := by rw [← hwa, cell_new _ _ _ _ _ _ rfl]; rfl
  rw [hwa]
  refine (H1.out wa hB).mono ?_
  rintro e w1 ⟨rfl, hb1⟩
  have b0 := (hb1.cell (p := ⟨w.heap.size, 0, none⟩) za).trans a0
  have b1 := (hb1.cell (p := ⟨w.heap.size, 1, none⟩) za).trans a1
  have b2 := (hb1.cell (p := ⟨w.heap.size, 2, none⟩) za).trans a2
  have b3 := (hb1.cell (p := ⟨w.heap.size, 3, none⟩) za).trans a3
  have z1 : w.heap.size < w1.heap.size := Nat.lt_of_lt_of_le za hb1.size
  have HB1 := Lib.hid (hB.trans (hb1.mono hB.size))
  clear hwa hb1 a0 a1 a2 a3 za hB
  go_wp2_with fail
  have HU := Lib.hid hlu
  have HL := Lib.hid hll
  have HBD : Hid (Below w.heap.size w w1.drew) := HB1.out.trans ⟨rfl, rfl, rfl, Nat.le_refl _, fun _ _ => rfl⟩
  clear hlu hll
  go_region_with
    (first
      | (go_at_call 51; have hsecond := HF; clear hsecond; go_must (
         refine (H2.out true _ ?_).mono ?_
         · exact HF.out
         rintro e wG ⟨n2, bt2, bn2, rfl, hT2, hG, hn2, hn2', hbn2⟩
         have d0 := (hG.cell (p := ⟨w.heap.size, 0, none⟩) zF).trans c0
         have d1 := (hG.cell (p := ⟨w.heap.size, 1, none⟩) zF).trans c1
         have d2 := (hG.cell (p := ⟨w.heap.size, 2, none⟩) zF).trans c2
         have d3 := (hG.cell (p := ⟨w.heap.size, 3, none⟩) zF).trans c3
         have d5 := (hG.cell (p := ⟨bt1, 5, none⟩) (Nat.lt_of_lt_of_le tlt hn1')).trans t5
         have u5 := hT2.c5
         rw [HL.out] at u5
         have HT2 := Lib.hid hT2
         have HG := Lib.hid hG
         clear hT2 hG))
      | (go_at_call 51; (
         refine (H2.out false _ ?_).mono ?_
         · exact HBD.out
         rintro e wF ⟨n1, bt1, bn1, rfl, hT1, hF, hn1, hn1', hbn1⟩
         have c0 := (hF.cell (p := ⟨w.heap.size, 0, none⟩) z1).trans b0
         have c1 := (hF.cell (p := ⟨w.heap.size, 1, none⟩) z1).trans b1
         have c2 := (hF.cell (p := ⟨w.heap.size, 2, none⟩) z1).trans b2
         have c3 := (hF.cell (p := ⟨w.heap.size, 3, none⟩) z1).trans b3
         have t5 := hT1.c5
         rw [HU.out] at t5
         have HT1 := Lib.hid hT1
         have HF := Lib.hid (HBD.out.trans (hF.mono (Nat.le_of_lt z1)))
         have zF : w.heap.size < wF.heap.size := Nat.lt_of_lt_of_le z1 hF.size
         have tlt := hT1.lt
         clear hT1 hF)))
  all_goals go_wp2
  all_goals go_ret3
  all_goals
    have k1 : w1.heap.size < bn1 := hbn1.1
    have k2 : wF.heap.size < bn2 := hbn2.1
    have k3 := HT1.out.nlt
    have k4 := HT2.out.nlt
    have k5 := HG.out.size
    refine ⟨bn1, bn2, rfl, HF.out.trans (HG.out.mono (Nat.le_of_lt zF)), by omega, by omega, Nat.lt_of_lt_of_le (Nat.lt_of_lt_of_le k3 hn1') k5, Nat.lt_of_lt_of_le k4 hn2', ?_, ?_⟩
    · intro i hi
      exact (HG.out.cell (p := ⟨bn1, i, none⟩) (Nat.lt_of_lt_of_le k3 hn1')).trans (HT1.out.nums i (by rw [HU.out]; exact hi))
    · intro i hi
      exact HT2.out.nums i (by rw [HL.out]; exact hi)

end Go.Proofs.Ytnaehbgmfajdjaa
