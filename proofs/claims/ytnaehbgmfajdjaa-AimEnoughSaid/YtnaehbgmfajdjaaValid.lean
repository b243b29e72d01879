/- What makes a law valid: areBeds, sums, isValid of package throw. -/
import Derived.Test.YtnaehbgmfajdjaaWithin
import Derived.Test.YtnaehbgmfajdjaaFar
namespace Go.Proofs.Ytnaehbgmfajdjaa
open Go.RowKit AimP

/-- A valid aim, whole. -/
structure AimFull (den : Int) (a : Int × List PBed) : Prop where
  ok : AimOk den a.2
  at0 : 0 ≤ a.1 ∧ a.1 ≤ 425
  isAt : isBedB a.1 = true
  isBeds : ∀ x ∈ a.2, x.bed = 0 ∨ isBedB x.bed = true
  asc : ∀ (i : Nat) x y, a.2[i]? = some x → a.2[i + 1]? = some y → x.bed < y.bed

set_option maxRecDepth 100000 in
set_option maxHeartbeats 1000000 in
theorem areBeds_any (a : Int × List PBed) (den : Int) (bb ob cb : Nat) (w : World) (h : AimFull den a) (hbb : bb < w.heap.size) (hB : BedsAt w bb ob a.2) :
    Calls Try.prog 123 #[.agg #[.int .i64 a.1, .slice (some ⟨bb, ob, none⟩) a.2.length cb, .int .i64 den]] w fun e w' => e = .returned (.bool true) ∧ Below w.heap.size w w' := by
  obtain ⟨at', l⟩ := a
  have hat := h.at0
  have hl := h.ok.len
  have hl1 := h.ok.len1
  have hbeds := h.ok.beds
  have hib := h.isBeds
  have hasc := h.asc
  have hcall := fun W => isBed_any at' W true hat.1 (by have := hat.2; simp only at this; omega) h.isAt.symm
  have hcalls := fun (x : PBed) (W : World) (hx : x ∈ l) (h0 : x.bed ≠ 0) => isBed_any x.bed W true (hbeds x hx).1 (by have := (hbeds x hx).2; omega) (((hib x hx).resolve_left h0).symm)
  simp only at hl hl1 hB hasc ⊢
  have HC := Lib.hid hcall
  have HCS := Lib.hid hcalls
  have HBD := Lib.hid hB
  have HASC := Lib.hid hasc
  clear hcall hcalls hB hasc hib hbeds h hat
  have hl0 : ((l.length : Int) == 0) = false := by rw [beq_eq_false_iff_ne]; omega
  go_enter Try.func123, Try.ntmps123
  go_wp2_with fail
  obtain ⟨wa, hwa⟩ : ∃ wa, w.alloc (Obj.cells #[Value.int IntKind.i64 at', .slice (some ⟨bb, ob, none⟩) l.length cb, .int .i64 den] 227) = wa := ⟨_, rfl⟩
  have hba : Below w.heap.size w wa := by rw [← hwa]; exact (Below.refl _ _).alloc (Nat.le_refl _) _
  have a1 : wa.cell? ⟨w.heap.size, 1, none⟩ = some (.slice (some ⟨bb, ob, none⟩) l.length cb) := by rw [← hwa, cell_new _ _ _ _ _ _ rfl]; rfl
  have za : w.heap.size < wa.heap.size := by rw [← hwa]; simp
  rw [hwa]
  refine (HC.out wa).mono ?_
  rintro e w1 ⟨rfl, hb1⟩
  have b1 : w1.cell? ⟨w.heap.size, 1, none⟩ = some (.slice (some ⟨bb, ob, none⟩) l.length cb) := (hb1.cell (p := ⟨_, _, none⟩) za).trans a1
  have HB1 := Lib.hid (hba.trans (hb1.mono hba.size))
  have z1 : w.heap.size < w1.heap.size := Nat.lt_of_lt_of_le za hb1.size
  clear hb1 hba a1 hwa za
  go_wp2
  go_loopw [21] (fun vi wr => ∃ i : Nat, vi = .int .i64 i ∧ i ≤ l.length ∧ Hid (Below w.heap.size w wr) ∧ wr.cell? ⟨w.heap.size, 1, none⟩ = some (.slice (some ⟨bb, ob, none⟩) l.length cb) ∧ w.heap.size < wr.heap.size) (fun vi _ => l.length - (intOf vi).toNat)
  case atStart => exact ⟨0, rfl, Nat.zero_le _, HB1.out, b1, z1⟩
  case round =>
    obtain ⟨i, rfl, hin, hBw, c1, zr⟩ := hrel
    clear b1 z1
    by_cases hlt : i < l.length
    · obtain ⟨x, hx⟩ : ∃ x, l[i]? = some x := ⟨l[i], by simp [hlt]⟩
      have hB2 := HBD.out.below hBw.out hbb
      obtain ⟨x0, x1, x2⟩ := hB2 i x hx
      have hxm : x ∈ l := List.mem_of_getElem? hx
      have hcx := fun W h0 => HCS.out x W hxm h0
      have HX := Lib.hid hcx
      clear hcx
      have fin : ∀ w2, Below w.heap.size wr w2 → Below w.heap.size w w2 := fun w2 h => hBw.out.trans h
      have HFIN := Lib.hid fin
      clear fin
      have hbr : bb < wr.heap.size := by omega
      by_cases hi0 : 0 < i
      · obtain ⟨k, rfl⟩ : ∃ k, i = k + 1 := ⟨i - 1, by omega⟩
        obtain ⟨y, hy⟩ : ∃ y, l[k]? = some y := ⟨l[k], by simp [show k < l.length by omega]⟩
        obtain ⟨y0, _, _⟩ := hB2 k y hy
        have hyx := HASC.out k y x hy hx
        have hle : ¬ (x.bed ≤ y.bed) := by omega
        clear hB2 hx hy hyx
        obtain ⟨xb, hxb⟩ : ∃ xb, x.bed = xb := ⟨_, rfl⟩
        rw [hxb] at x0 HX hle
        have kpos : decide ((0 : Int) < (k : Int) + 1) = true := by rw [decide_eq_true_iff]; omega
        by_cases h0 : xb = 0
        · rw [h0] at x0 hle
          clear HX h0
          obtain ⟨yb, hyb⟩ : ∃ yb, y.bed = yb := ⟨_, rfl⟩
          rw [hyb] at y0 hle
          have hled : decide ((0 : Int) ≤ yb) = false := by simpa using hle
          go_wp2_with fail
          obtain ⟨wb, hwb⟩ : ∃ wb, wr.alloc (Obj.cells #[Value.int IntKind.i64 0, Value.int IntKind.i64 x.low, Value.int IntKind.i64 x.high] 61) = wb := ⟨_, rfl⟩
          have hzb : wb.heap.size = wr.heap.size + 1 := by rw [← hwb]; simp
          have f0 : ∀ d os, (far wb d os).cell? ⟨wr.heap.size, 0, none⟩ = some (.int .i64 0) := fun d os => cell_far (by simp only; omega) (by rw [← hwb, cell_new _ _ _ _ _ _ rfl]; rfl) d os
          have g1 : wb.cell? ⟨w.heap.size, 1, none⟩ = some (.slice (some ⟨bb, ob, none⟩) l.length cb) := by rw [← hwb, cell_old _ _ _ zr]; exact c1
          have f1 : ∀ d os, (far wb d os).cell? ⟨w.heap.size, 1, none⟩ = some (.slice (some ⟨bb, ob, none⟩) l.length cb) := fun d os => cell_far (by simp only; omega) g1 d os
          have f2 : ∀ d os, (far wb d os).cell? ⟨bb, ob + k * 3, none⟩ = some (.int .i64 yb) := fun d os => cell_far (by simp only; omega) (by rw [← hwb, cell_old _ _ _ hbr]; exact y0) d os
          have hwk : IntKind.i64.wrap ((k : Int) + 1 - 1) = (k : Int) := by rw [IntWalk.i64_in _ (by omega)]; omega
          have hwk2 : IntKind.i64.wrap (k : Int) = (k : Int) := IntWalk.i64_in _ (by omega)
          have kk : (0 : Int) ≤ (k : Int) := by omega
          have kl : (k : Int) < (l.length : Int) := by omega
          have hbb' : Below wr.heap.size wr wb := by rw [← hwb]; exact (Below.refl _ _).alloc (Nat.le_refl _) _
          have HBB := Lib.hid hbb'
          have HG1 := Lib.hid g1
          rw [hwb]
          clear hwb hbb' x0 x1 x2 c1 g1
          refine wp_region_far (by kernel_rfl) (by kernel_rfl) ?_
          repeat (go_big_quiet_step (fail))
          refine wpQuiet_nil ?_
          intro _ hw'
          obtain ⟨⟨nq, osq⟩, hw''⟩ := hw'
          subst hw''
          go_wp2
          go_roundw
          case rel => exact ⟨k + 1 + 1, by go_num, by omega, HFIN.out _ ((HBB.out.trans ((below_far wb nq osq).mono (by omega))).mono (by omega)), (below_far wb nq osq).cell (p := ⟨_, _, none⟩) (by simp only; omega) |>.trans HG1.out, by have := (below_far wb nq osq).size; omega⟩
          case measure => simp [intOf]; omega
        · have h0' : (xb == 0) = false := by simpa using h0
          have h0'' : (xb != 0) = true := by simpa using h0
          have hc2 := fun W => HX.out W h0
          have HX2 := Lib.hid hc2
          clear hc2 HX
          obtain ⟨yb, hyb⟩ : ∃ yb, y.bed = yb := ⟨_, rfl⟩
          rw [hyb] at y0 hle
          have hled : decide (xb ≤ yb) = false := by simpa using hle
          go_wp2_with fail
          obtain ⟨wb, hwb⟩ : ∃ wb, wr.alloc (Obj.cells #[Value.int IntKind.i64 xb, Value.int IntKind.i64 x.low, Value.int IntKind.i64 x.high] 61) = wb := ⟨_, rfl⟩
          have hzb : wb.heap.size = wr.heap.size + 1 := by rw [← hwb]; simp
          have f0 : ∀ d os, (far wb d os).cell? ⟨wr.heap.size, 0, none⟩ = some (.int .i64 xb) := fun d os => cell_far (by simp only; omega) (by rw [← hwb, cell_new _ _ _ _ _ _ rfl]; rfl) d os
          have g1 : wb.cell? ⟨w.heap.size, 1, none⟩ = some (.slice (some ⟨bb, ob, none⟩) l.length cb) := by rw [← hwb, cell_old _ _ _ zr]; exact c1
          have f1 : ∀ d os, (far wb d os).cell? ⟨w.heap.size, 1, none⟩ = some (.slice (some ⟨bb, ob, none⟩) l.length cb) := fun d os => cell_far (by simp only; omega) g1 d os
          have f2 : ∀ d os, (far wb d os).cell? ⟨bb, ob + k * 3, none⟩ = some (.int .i64 yb) := fun d os => cell_far (by simp only; omega) (by rw [← hwb, cell_old _ _ _ hbr]; exact y0) d os
          have hwk : IntKind.i64.wrap ((k : Int) + 1 - 1) = (k : Int) := by rw [IntWalk.i64_in _ (by omega)]; omega
          have hwk2 : IntKind.i64.wrap (k : Int) = (k : Int) := IntWalk.i64_in _ (by omega)
          have kk : (0 : Int) ≤ (k : Int) := by omega
          have kl : (k : Int) < (l.length : Int) := by omega
          have hbb' : Below wr.heap.size wr wb := by rw [← hwb]; exact (Below.refl _ _).alloc (Nat.le_refl _) _
          have HBB := Lib.hid hbb'
          have HG1 := Lib.hid g1
          rw [hwb]
          clear hwb hbb' x0 x1 x2 c1 g1
          refine wp_region_far (by kernel_rfl) (by kernel_rfl) ?_
          repeat (go_big_quiet_step ((go_at_call 155; exact Calls.far_of (HX2.out _))))
          refine wpQuiet_nil ?_
          intro _ hw'
          obtain ⟨⟨nq, osq⟩, hw''⟩ := hw'
          subst hw''
          go_wp2
          go_roundw
          case rel => exact ⟨k + 1 + 1, by go_num, by omega, HFIN.out _ ((HBB.out.trans ((below_far wb nq osq).mono (by omega))).mono (by omega)), (below_far wb nq osq).cell (p := ⟨_, _, none⟩) (by simp only; omega) |>.trans HG1.out, by have := (below_far wb nq osq).size; omega⟩
          case measure => simp [intOf]; omega
      · have hi1 : decide (0 < i) = false := by simp; omega
        have hi2 : decide ((0 : Int) < (i : Int)) = false := by simp; omega
        clear hB2 hx
        obtain ⟨xb, hxb⟩ : ∃ xb, x.bed = xb := ⟨_, rfl⟩
        rw [hxb] at x0 HX
        by_cases h0 : xb = 0
        · rw [h0] at x0
          clear HX h0 hi0
          go_wp2_with fail
          obtain ⟨wb, hwb⟩ : ∃ wb, wr.alloc (Obj.cells #[Value.int IntKind.i64 0, Value.int IntKind.i64 x.low, Value.int IntKind.i64 x.high] 61) = wb := ⟨_, rfl⟩
          have hzb : wb.heap.size = wr.heap.size + 1 := by rw [← hwb]; simp
          have f0 : ∀ d os, (far wb d os).cell? ⟨wr.heap.size, 0, none⟩ = some (.int .i64 0) := fun d os => cell_far (by simp only; omega) (by rw [← hwb, cell_new _ _ _ _ _ _ rfl]; rfl) d os
          have g1 : wb.cell? ⟨w.heap.size, 1, none⟩ = some (.slice (some ⟨bb, ob, none⟩) l.length cb) := by rw [← hwb, cell_old _ _ _ zr]; exact c1
          have f1 : ∀ d os, (far wb d os).cell? ⟨w.heap.size, 1, none⟩ = some (.slice (some ⟨bb, ob, none⟩) l.length cb) := fun d os => cell_far (by simp only; omega) g1 d os
          have hbb' : Below wr.heap.size wr wb := by rw [← hwb]; exact (Below.refl _ _).alloc (Nat.le_refl _) _
          have HBB := Lib.hid hbb'
          have HG1 := Lib.hid g1
          rw [hwb]
          clear hwb hbb' x0 x1 x2 c1 g1
          refine wp_region_far (by kernel_rfl) (by kernel_rfl) ?_
          repeat (go_big_quiet_step (fail))
          refine wpQuiet_nil ?_
          intro _ hw'
          obtain ⟨⟨nq, osq⟩, hw''⟩ := hw'
          subst hw''
          go_wp2
          go_roundw
          case rel => exact ⟨i + 1, by go_num, by omega, HFIN.out _ ((HBB.out.trans ((below_far wb nq osq).mono (by omega))).mono (by omega)), (below_far wb nq osq).cell (p := ⟨_, _, none⟩) (by simp only; omega) |>.trans HG1.out, by have := (below_far wb nq osq).size; omega⟩
          case measure => simp [intOf]; omega
        · have h0' : (xb == 0) = false := by simpa using h0
          have h0'' : (xb != 0) = true := by simpa using h0
          have hc2 := fun W => HX.out W h0
          have HX2 := Lib.hid hc2
          clear hc2 HX
          clear hi0
          go_wp2_with fail
          obtain ⟨wb, hwb⟩ : ∃ wb, wr.alloc (Obj.cells #[Value.int IntKind.i64 xb, Value.int IntKind.i64 x.low, Value.int IntKind.i64 x.high] 61) = wb := ⟨_, rfl⟩
          have hzb : wb.heap.size = wr.heap.size + 1 := by rw [← hwb]; simp
          have f0 : ∀ d os, (far wb d os).cell? ⟨wr.heap.size, 0, none⟩ = some (.int .i64 xb) := fun d os => cell_far (by simp only; omega) (by rw [← hwb, cell_new _ _ _ _ _ _ rfl]; rfl) d os
          have g1 : wb.cell? ⟨w.heap.size, 1, none⟩ = some (.slice (some ⟨bb, ob, none⟩) l.length cb) := by rw [← hwb, cell_old _ _ _ zr]; exact c1
          have f1 : ∀ d os, (far wb d os).cell? ⟨w.heap.size, 1, none⟩ = some (.slice (some ⟨bb, ob, none⟩) l.length cb) := fun d os => cell_far (by simp only; omega) g1 d os
          have hbb' : Below wr.heap.size wr wb := by rw [← hwb]; exact (Below.refl _ _).alloc (Nat.le_refl _) _
          have HBB := Lib.hid hbb'
          have HG1 := Lib.hid g1
          rw [hwb]
          clear hwb hbb' x0 x1 x2 c1 g1
          refine wp_region_far (by kernel_rfl) (by kernel_rfl) ?_
          repeat (go_big_quiet_step ((go_at_call 155; exact Calls.far_of (HX2.out _))))
          refine wpQuiet_nil ?_
          intro _ hw'
          obtain ⟨⟨nq, osq⟩, hw''⟩ := hw'
          subst hw''
          go_wp2
          go_roundw
          case rel => exact ⟨i + 1, by go_num, by omega, HFIN.out _ ((HBB.out.trans ((below_far wb nq osq).mono (by omega))).mono (by omega)), (below_far wb nq osq).cell (p := ⟨_, _, none⟩) (by simp only; omega) |>.trans HG1.out, by have := (below_far wb nq osq).size; omega⟩
          case measure => simp [intOf]; omega
    · obtain rfl : i = l.length := by omega
      go_wp2
      go_ret
      exact ⟨rfl, hBw.out⟩

end Go.Proofs.Ytnaehbgmfajdjaa
