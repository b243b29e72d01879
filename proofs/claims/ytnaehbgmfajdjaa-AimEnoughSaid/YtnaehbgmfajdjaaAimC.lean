/- (side).mean of package aim: the mean of values in the truth that belongs to a side: the walk. -/
import Derived.Test.YtnaehbgmfajdjaaAimB
namespace Go.Proofs.Ytnaehbgmfajdjaa
open Go.RowKit AimP

set_option maxRecDepth 100000 in
set_option maxHeartbeats 1000000 in
theorem sideMean (best : Bool) (den : Int) (ai ba oa na ca bb ob cb bv cv base : Nat) (l : List PBed) (vs : List Int) (r : Int) (w : World)
    (hai : ai < na) (hba : ba < w.heap.size) (hbb : bb < w.heap.size) (hbbv : bb ≠ bv)
    (hcell : w.cell? ⟨ba, oa + ai*2 + 1, none⟩ = some (.slice (some ⟨bb, ob, none⟩) l.length cb)) (hB : BedsAt w bb ob l)
    (hV : w.ownsRow base 3 1 (.slice (some ⟨bv, 0, none⟩) l.length cv) l.length (vs.map (Value.int .i64)))
    (hl1 : 1 ≤ l.length) (hl : l.length ≤ 10) (hlen : vs.length = l.length) (hs : Small 3000 l) (hd1 : 1 ≤ den) (hd : den ≤ 3000) (h0 : lows l ≤ den) (h1 : den ≤ highs l)
    (hv : ∀ v ∈ vs, 0 ≤ v ∧ v ≤ 2000000000) (hr : r = mean best den l vs) :
    Calls Try.prog 171 #[.bool best, .agg #[.int .i64 den, .slice (some ⟨ba, oa, none⟩) na ca], .int .i64 ai, .slice (some ⟨bv, 0, none⟩) l.length cv] w
      fun e w' => e = .returned (.int .i64 r) ∧ But bv w.heap.size w w' := by
  have HB := Lib.hid hB
  have HV := Lib.hid hV
  have HS := Lib.hid hs
  have HR := Lib.hid hr
  have HL := Lib.hid hlen
  have HVV := Lib.hid hv
  have H0 := Lib.hid h0
  have H1 := Lib.hid h1
  obtain ⟨i0, hi, hz0, hz1, hz2⟩ := info_parts infoInt
  have HI := Lib.hid hi
  have HZ0 := Lib.hid hz0
  have HZ1 := Lib.hid hz1
  have HZ2 := Lib.hid hz2
  clear hB hV hs hr hlen hv h0 h1 hi hz0 hz1 hz2
  go_enter Try.func171, Try.ntmps171
  go_wp2
  obtain ⟨w3, hw3⟩ : ∃ w3, ((w.alloc (Obj.cells #[Value.bool best] 114)).alloc (Obj.cells #[Value.int IntKind.i64 den, Value.slice (some ⟨ba, oa, none⟩) na ca] 28)).alloc (Obj.cells #[Value.slice (some ⟨bv, 0, none⟩) l.length cv] 33) = w3 := ⟨_, rfl⟩
  rw [hw3]
  have hz : w3.heap.size = w.heap.size + 1 + 1 + 1 := by rw [← hw3]; simp
  have c4 : w3.cell? ⟨w.heap.size, 0, none⟩ = some (.bool best) := by rw [← hw3, cell_old _ _ _ (by simp; omega), cell_old _ _ _ (by simp), cell_new _ _ _ _ _ _ rfl]; rfl
  have c5 : w3.cell? ⟨w.heap.size + 1, 0, none⟩ = some (.int .i64 den) := by rw [← hw3, cell_old _ _ _ (by simp), cell_new _ _ _ _ _ _ (by simp)]; rfl
  have c6 : w3.cell? ⟨w.heap.size + 1, 1, none⟩ = some (.slice (some ⟨ba, oa, none⟩) na ca) := by rw [← hw3, cell_old _ _ _ (by simp), cell_new _ _ _ _ _ _ (by simp)]; rfl
  have c7 : w3.cell? ⟨w.heap.size + 1 + 1, 0, none⟩ = some (.slice (some ⟨bv, 0, none⟩) l.length cv) := by rw [← hw3, cell_new _ _ _ _ _ _ (by simp)]; rfl
  have b3 : Below w.heap.size w w3 := by rw [← hw3]; exact (((Below.refl _ w).alloc (Nat.le_refl _) _).alloc (by simp) _).alloc (by simp; omega) _
  have c8 : w3.cell? ⟨ba, oa + ai*2 + 1, none⟩ = some (.slice (some ⟨bb, ob, none⟩) l.length cb) := (b3.cell (p := ⟨ba, _, none⟩) hba).trans hcell
  have HV3 : Hid (w3.ownsRow base 3 1 (.slice (some ⟨bv, 0, none⟩) l.length cv) l.length (vs.map (Value.int .i64))) := by unfold Hid; rw [← hw3]; exact ((HV.out.alloc _).alloc _).alloc _
  clear hw3 hcell
  have hait : (ai : Int) < (na : Int) := by omega
  go_quiet (fail)
  go_wp2_with (at_make; refine wpList_make_full _ rfl _ _ 33 rfl (w.heap.size + 1 + 1 + 1) 3 i0 (.int .i64 0) 1 Try.underlying33 HI.out HZ0.out HZ1.out .i64 .i64 _ _ l.length rfl rfl rfl rfl (by rw [HZ2.out]; omega) (by unfold maxLen; omega) (by simp; omega) ?_; intro w1 hown hgrow)
  have hz1 := hgrow.size
  have ez : (w3.drewN nq).heap.size = w.heap.size + 1 + 1 + 1 := hz
  rw [ez] at hown
  have hz1' : w.heap.size + 1 + 1 + 1 < w1.heap.size := (hown.lt _ rfl).2
  have hb1 : But bv (w.heap.size + 1 + 1 + 1) w3 w1 := ((But.refl _ _ w3).drewN nq).grown hgrow (Nat.le_of_eq ez.symm) (fun k e => by cases e)
  have HO1 : Hid (w1.ownsRow (w.heap.size + 1 + 1 + 1) 3 1 (.slice (some ⟨w.heap.size + 1 + 1 + 1, 0, none⟩) l.length l.length) l.length ((ordTo l.length 0).map (Value.int .i64))) := by
    unfold Hid
    have e : (madeCells (Value.int IntKind.i64 0).cells (l.length * 1)).toList = (ordTo l.length 0).map (Value.int .i64) := by
      rw [Nat.mul_one]
      show (madeCells #[Value.int IntKind.i64 0] l.length).toList = _
      rw [toList_madeCells_one]
      simp [ordTo]
    rw [e] at hown
    exact hown
  have HV1 : Hid (w1.ownsRow base 3 1 (.slice (some ⟨bv, 0, none⟩) l.length cv) l.length ((tameTo vs 0).map (Value.int .i64))) := by
    unfold Hid
    have h : (w3.drewN nq).ownsRow base 3 1 (.slice (some ⟨bv, 0, none⟩) l.length cv) l.length (vs.map (Value.int .i64)) := HV3.out
    have := h.kept hgrow (Or.inr (by simp [Value.ownBlock]))
    simpa [tameTo] using this
  have hbv : bv < w.heap.size := (HV.out.lt _ rfl).2
  clear hown hgrow ez hz1
  go_loopw [10, 11, 32] (fun vm vsum vj wr => ∃ j : Nat, j ≤ l.length ∧ vj = .int .i64 j ∧ vm = .int .i64 (den - lowsTo l j) ∧ vsum = .int .i64 (baseTo l (vs.map tame) j) ∧ But bv (w.heap.size + 1 + 1 + 1) w3 wr ∧ w.heap.size + 1 + 1 + 1 < wr.heap.size ∧
      Hid (wr.ownsRow base 3 1 (.slice (some ⟨bv, 0, none⟩) l.length cv) l.length ((tameTo vs j).map (Value.int .i64))) ∧
      Hid (wr.ownsRow (w.heap.size + 1 + 1 + 1) 3 1 (.slice (some ⟨w.heap.size + 1 + 1 + 1, 0, none⟩) l.length l.length) l.length ((ordTo l.length j).map (Value.int .i64))) ∧
      Hid (∀ (i : Nat) (x : PBed), i < j → l[i]? = some x → vs[i]? = some never → min (den - lowsEx l i l.length) x.high ≤ 0)) (fun _ _ vj _ => l.length - (intOf vj).toNat)
  case atStart => exact ⟨0, by omega, rfl, by simp [lowsTo], by simp [baseTo], hb1, hz1', HV1, HO1, fun i x h => absurd h (by omega)⟩
  case round =>
    obtain ⟨j, hj, rfl, rfl, rfl, hbr, hzr, hVr, hOr, hNr⟩ := hrel
    have d4 : wr.cell? ⟨w.heap.size, 0, none⟩ = some (.bool best) := (hbr.cell (p := ⟨_, _, none⟩) (by simp only; omega) (by simp only; omega)).trans c4
    have d5 : wr.cell? ⟨w.heap.size + 1, 0, none⟩ = some (.int .i64 den) := (hbr.cell (p := ⟨_, _, none⟩) (by simp only; omega) (by simp only; omega)).trans c5
    have d7 : wr.cell? ⟨w.heap.size + 1 + 1, 0, none⟩ = some (.slice (some ⟨bv, 0, none⟩) l.length cv) := (hbr.cell (p := ⟨_, _, none⟩) (by simp only; omega) (by simp only; omega)).trans c7
    by_cases hlt : j < l.length
    · obtain ⟨x, hx⟩ : ∃ x, l[j]? = some x := ⟨l[j], by simp [hlt]⟩
      obtain ⟨v, hvj⟩ : ∃ v, vs[j]? = some v := ⟨vs[j]'(by rw [HL.out]; exact hlt), by simp⟩
      have hBr : BedsAt wr bb ob l := (HB.out.below b3 hbb).but hbr (by omega) hbbv
      obtain ⟨e0, e1, e2⟩ := hBr j x hx
      have dv : wr.cell? ⟨bv, j, none⟩ = some (.int .i64 v) := by
        rw [hVr.out.cellAt j (by omega), List.getElem?_map, tameTo_get, hvj]; rfl
      obtain ⟨v0, v1⟩ := HVV.out v (List.mem_of_getElem? hvj)
      obtain ⟨x1, x2, x3⟩ := HS.out x (List.mem_of_getElem? hx)
      have lb := lowsTo_le l 3000 HS.out (by omega) j
      have bb' := baseTo_bd l (vs.map tame) 3000 2000000000 HS.out (by omega) (by intro u hu; obtain ⟨t, ht, rfl⟩ := List.mem_map.1 hu; exact tame_bd (HVV.out t ht) (by omega)) (by omega) j
      have HX := Lib.hid hx
      have HW := Lib.hid hvj
      have hjt : (j : Int) < (l.length : Int) := by omega
      have z3 : w.heap.size + 1 + 1 < wr.heap.size := by omega
      have z2 : w.heap.size + 1 < wr.heap.size := by omega
      have z1 : w.heap.size < wr.heap.size := by omega
      have zb : bb < wr.heap.size := by omega
      have zv : bv < wr.heap.size := by omega
      clear hx hvj
      by_cases hvn : v = 2000000000
      · have hvb : (v == 2000000000) = true := by simpa using hvn
        have HVN := Lib.hid hvn
        clear hvn
        obtain ⟨rc, hrc⟩ : ∃ rc, rc = min (den - lowsEx l j l.length) x.high := ⟨_, rfl⟩
        have HRC := Lib.hid hrc
        have hcan := fun W (h1 : bb < W.heap.size) (h2 : BedsAt W bb ob l) => can_any bb ob cb l j x den rc W h1 hl HX.out (by omega) hd HS.out h2 hrc
        have HCAN := Lib.hid hcan
        clear hcan hrc
        by_cases hc : 0 < rc
        · go_wp2_with fail
          refine (HCAN.out _ (by simp; omega) (hBr.below ((Below.refl wr.heap.size wr).alloc (Nat.le_refl _) _) zb)).mono ?_
          rintro e w2 ⟨rfl, hb2⟩
          go_wp2
          go_ret
          refine ⟨ret_int ?_, ?_⟩
          · rw [HR.out, mean_never HL.out HX.out (by rw [HW.out, HVN.out]; rfl) (by rw [← HRC.out]; exact hc)]; rfl
          · exact (((But.of b3).trans (hbr.mono (by omega))).alloc (by omega) _).trans (.of (hb2.mono (by simp; omega)))
        · go_wp2_with fail
          refine (HCAN.out _ (by simp; omega) (hBr.below ((Below.refl wr.heap.size wr).alloc (Nat.le_refl _) _) zb)).mono ?_
          rintro e w2 ⟨rfl, hb2⟩
          have hz2' := hb2.size
          rw [World.size_alloc] at hb2 hz2'
          have g1 : w2.cell? ⟨wr.heap.size, 1, none⟩ = some (.int .i64 x.low) := by rw [hb2.cell (p := ⟨wr.heap.size, 1, none⟩) (by simp only; omega), cell_new _ _ _ _ _ _ rfl]; rfl
          have g7 : w2.cell? ⟨w.heap.size + 1 + 1, 0, none⟩ = some (.slice (some ⟨bv, 0, none⟩) l.length cv) := by rw [hb2.cell (p := ⟨_, _, none⟩) (by simp only; omega), cell_old _ _ _ z3]; exact d7
          have hO2 := hOr.out.alloc (Obj.cells #[Value.int IntKind.i64 x.bed, Value.int IntKind.i64 x.low, Value.int IntKind.i64 x.high] 61)
          have hV2 := hVr.out.alloc (Obj.cells #[Value.int IntKind.i64 x.bed, Value.int IntKind.i64 x.low, Value.int IntKind.i64 x.high] 61)
          have hbw := hbr.alloc (Nat.le_of_lt hzr) (Obj.cells #[Value.int IntKind.i64 x.bed, Value.int IntKind.i64 x.low, Value.int IntKind.i64 x.high] 61)
          have hb2g : (wr.alloc (Obj.cells #[Value.int IntKind.i64 x.bed, Value.int IntKind.i64 x.low, Value.int IntKind.i64 x.high] 61)).grownBy w2 none := ⟨hb2.os, hb2.tape, hb2.output, hb2.size, fun k hk _ => hb2.block k (by simpa using hk)⟩
          have hO3 := hO2.kept hb2g (Or.inr (by simp [Value.ownBlock]))
          have hV3 := hV2.kept hb2g (Or.inr (by simp [Value.ownBlock]))
          have hbw2 := hbw.trans (.of (hb2.mono (by omega)))
          have fv := hV3.frozenAt j
          have gv : w2.cell? ⟨bv, j, none⟩ = some (.int .i64 v) := by rw [hV3.cellAt j (by omega), List.getElem?_map, tameTo_get, HW.out]; rfl
          have hV4 := (hV3.stored j (Value.int .i64 0)).1
          have hO4 := ownsRow_setCell_other (a := ⟨bv, j, none⟩) hO3 (by simp [Value.ownBlock]; omega) (Value.int .i64 0)
          have hbw3 := hbw2.setCell (p := ⟨bv, j, none⟩) (Or.inl rfl) (Value.int .i64 0)
          have HO4 := Lib.hid hO4
          have HV4 := Lib.hid hV4
          clear hO2 hV2 hbw hb2g hO3 hV3 hV4 hO4 dv d7 d4 d5
          go_wp2_with fail
          obtain ⟨wb, hwb⟩ : ∃ wb, w2.setCell ⟨bv, j, none⟩ (Value.int IntKind.i64 0) = wb := ⟨_, rfl⟩
          rw [hwb]
          have n1 : ¬ (wr.heap.size = w.heap.size + 1 + 1 + 1) := by omega
          have n2 : ¬ (bv = w.heap.size + 1 + 1 + 1) := by omega
          have n3 : ¬ (w.heap.size + 1 + 1 + 1 = wr.heap.size) := by omega
          have n4 : ¬ (w.heap.size + 1 + 1 + 1 = bv) := by omega
          have n5 : ¬ (bv = wr.heap.size) := by omega
          have n6 : ¬ (bv = w.heap.size + 1 + 1) := by omega
          have f1 : wb.cell? ⟨wr.heap.size, 1, none⟩ = some (.int .i64 x.low) := by rw [← hwb, World.cell?_setCell_far _ _ _ _ n5]; exact g1
          have f7 : wb.cell? ⟨w.heap.size + 1 + 1, 0, none⟩ = some (.slice (some ⟨bv, 0, none⟩) l.length cv) := by rw [← hwb, World.cell?_setCell_far _ _ _ _ n6]; exact g7
          rw [hwb] at hbw3
          have HOb : Hid (wb.ownsRow (w.heap.size + 1 + 1 + 1) 3 1 (.slice (some ⟨w.heap.size + 1 + 1 + 1, 0, none⟩) l.length l.length) l.length ((ordTo l.length j).map (Value.int .i64))) := by unfold Hid; rw [← hwb]; exact HO4.out
          have HVb : Hid (wb.ownsRow base 3 1 (.slice (some ⟨bv, 0, none⟩) l.length cv) l.length ((tameTo vs (j + 1)).map (Value.int .i64))) := by
            unfold Hid
            have h := HV4.out
            rw [← List.map_set, show ((0 : Int)) = tame v by unfold tame never; rw [if_pos HVN.out], tameTo_set _ _ _ HW.out, show tame v = 0 by unfold tame never; rw [if_pos HVN.out], hwb] at h
            exact h
          have fw : wb.cell? ⟨bv, j, none⟩ = some (.int .i64 0) := by rw [← hwb]; exact World.cell?_setCell_same' _ _ _ (by rw [gv]; rfl)
          have fo := HOb.out.frozenAt j
          have fc : wb.cell? ⟨w.heap.size + 1 + 1 + 1, j, none⟩ = some (.int .i64 0) := by rw [HOb.out.cellAt j (by omega), List.getElem?_map, ordTo_get _ _ hlt]; rfl
          have hzb : w.heap.size + 1 + 1 + 1 < wb.heap.size := by rw [← hwb]; simp; omega
          clear hwb g1 g7 gv fv HV4 HO4 z1 z2 z3 zb zv hb2 hbw2
          go_region_held3 (fun w' => w'.cell? ⟨wr.heap.size, 1, none⟩ = some (.int .i64 x.low) ∧ w'.cell? ⟨w.heap.size + 1 + 1, 0, none⟩ = some (.slice (some ⟨bv, 0, none⟩) l.length cv) ∧ w'.cell? ⟨bv, j, none⟩ = some (.int .i64 0)) (go_keep) (fail)
          go_wp2
          have htv : tame v = 0 := by unfold tame never; rw [if_pos HVN.out]
          have e1 : lowsTo l (j + 1) = lowsTo l j + x.low := by simp [lowsTo, HX.out]
          have e2 : baseTo l (vs.map tame) (j + 1) = baseTo l (vs.map tame) j := by simp [baseTo, HX.out, HW.out, htv]
          go_roundw
          case rel =>
            refine ⟨j + 1, by omega, by go_num, by rw [e1, IntWalk.i64_in _ (by omega)]; go_num, ?_, ?_, ?_, ?_, ?_, ?_⟩
            · rw [e2, IntWalk.i64_in 0 (by omega), Int.add_zero, IntWalk.i64_in _ (by omega)]
            · exact (hbw3.setCell (p := ⟨w.heap.size + 1 + 1 + 1, j, none⟩) (Or.inr (Nat.le_refl _)) _).drew
            · simp; omega
            · exact (ownsRow_setCell_other (a := ⟨w.heap.size + 1 + 1 + 1, j, none⟩) HVb.out (by simp [Value.ownBlock]; omega) (Value.int .i64 (j : Int))).drew
            · have h := (HOb.out.stored j (Value.int .i64 (j : Int))).1
              rw [← List.map_set, ordTo_set _ _ hlt] at h
              exact h.drew
            · intro i y hi hy hyn
              by_cases hij : i < j
              · exact hNr.out i y hij hy hyn
              · obtain rfl : i = j := by omega
                rw [HX.out] at hy
                obtain rfl := Option.some.inj hy
                rw [← HRC.out]; omega
          case measure => simp [intOf]; omega
      · have hvb : (v == 2000000000) = false := by simpa using hvn
        have HVN := Lib.hid hvn
        clear hvn
        have HB2 : Hid (wr.ownsRow (w.heap.size + 1 + 1 + 1) 3 1 (.slice (some ⟨w.heap.size + 1 + 1 + 1, 0, none⟩) l.length l.length) l.length ((ordTo l.length j).map (Value.int .i64))) := hOr
        go_wp2_with fail
        obtain ⟨wb, hwb⟩ : ∃ wb, wr.alloc (Obj.cells #[Value.int IntKind.i64 x.bed, Value.int IntKind.i64 x.low, Value.int IntKind.i64 x.high] 61) = wb := ⟨_, rfl⟩
        rw [hwb]
        have f1 : wb.cell? ⟨wr.heap.size, 1, none⟩ = some (.int .i64 x.low) := by rw [← hwb, cell_new _ _ _ _ _ _ rfl]; rfl
        have f7 : wb.cell? ⟨w.heap.size + 1 + 1, 0, none⟩ = some (.slice (some ⟨bv, 0, none⟩) l.length cv) := by rw [← hwb, cell_old _ _ _ z3]; exact d7
        have fv : wb.cell? ⟨bv, j, none⟩ = some (.int .i64 v) := by rw [← hwb, cell_old _ _ _ zv]; exact dv
        have hOb := hOr.out.alloc (Obj.cells #[Value.int IntKind.i64 x.bed, Value.int IntKind.i64 x.low, Value.int IntKind.i64 x.high] 61)
        have hVb := hVr.out.alloc (Obj.cells #[Value.int IntKind.i64 x.bed, Value.int IntKind.i64 x.low, Value.int IntKind.i64 x.high] 61)
        have hbb' := hbr.alloc (Nat.le_of_lt hzr) (Obj.cells #[Value.int IntKind.i64 x.bed, Value.int IntKind.i64 x.low, Value.int IntKind.i64 x.high] 61)
        rw [hwb] at hOb hVb hbb'
        have fo := hOb.frozenAt j
        have fc : wb.cell? ⟨w.heap.size + 1 + 1 + 1, j, none⟩ = some (.int .i64 0) := by rw [hOb.cellAt j (by omega), List.getElem?_map, ordTo_get _ _ hlt]; rfl
        have HOb := Lib.hid hOb
        have HVb := Lib.hid hVb
        have hzb : w.heap.size + 1 + 1 + 1 < wb.heap.size := by rw [← hwb]; simp; omega
        clear hwb dv d7 d4 d5 hOb hVb
        have n1 : ¬ (wr.heap.size = w.heap.size + 1 + 1 + 1) := by omega
        have n2 : ¬ (bv = w.heap.size + 1 + 1 + 1) := by omega
        have n3 : ¬ (w.heap.size + 1 + 1 + 1 = wr.heap.size) := by omega
        have n4 : ¬ (w.heap.size + 1 + 1 + 1 = bv) := by omega
        have pb := prod_bd x1 (Int.le_trans x2 x3) v0 v1
        go_region_held3 (fun w' => w'.cell? ⟨wr.heap.size, 1, none⟩ = some (.int .i64 x.low) ∧ w'.cell? ⟨w.heap.size + 1 + 1, 0, none⟩ = some (.slice (some ⟨bv, 0, none⟩) l.length cv) ∧ w'.cell? ⟨bv, j, none⟩ = some (.int .i64 v)) (go_keep) (fail)
        go_wp2
        have htv : tame v = v := by unfold tame never; rw [if_neg HVN.out]
        have e1 : lowsTo l (j + 1) = lowsTo l j + x.low := by simp [lowsTo, HX.out]
        have e2 : baseTo l (vs.map tame) (j + 1) = baseTo l (vs.map tame) j + x.low * v := by simp [baseTo, HX.out, HW.out, htv]
        go_roundw
        case rel =>
          refine ⟨j + 1, by omega, by go_num, by rw [e1, IntWalk.i64_in _ (by omega)]; go_num, by rw [e2, IntWalk.i64_in (x.low * v) (by omega), IntWalk.i64_in _ (by omega)], ?_, ?_, ?_, ?_, ?_⟩
          · exact (hbb'.setCell (p := ⟨w.heap.size + 1 + 1 + 1, j, none⟩) (Or.inr (Nat.le_refl _)) _).drew
          · simp; omega
          · have h := ownsRow_setCell_other (a := ⟨w.heap.size + 1 + 1 + 1, j, none⟩) HVb.out (by simp [Value.ownBlock]; omega) (Value.int .i64 (j : Int))
            rw [← tameTo_keep vs j v HW.out (by unfold never; exact HVN.out)]
            exact h.drew
          · have h := (HOb.out.stored j (Value.int .i64 (j : Int))).1
            rw [← List.map_set, ordTo_set _ _ hlt] at h
            exact h.drew
          · intro i y hi hy hyn
            by_cases hij : i < j
            · exact hNr.out i y hij hy hyn
            · obtain rfl : i = j := by omega
              rw [HW.out] at hyn
              exact absurd (Option.some.inj hyn) (by unfold never; exact HVN.out)
        case measure => simp [intOf]; omega
    · obtain rfl : j = l.length := by omega
      rw [lowsTo_all, baseTo_all _ _ (by rw [List.length_map]; exact HL.out)]
      rw [tameTo_all _ _ (Nat.le_of_eq HL.out)] at hVr
      rw [ordTo_all] at hOr
      haveI : Inhabited (Fin l.length) := ⟨⟨0, by omega⟩⟩
      obtain ⟨d, hdl⟩ : ∃ d : Array (Fin l.length), d.toList = List.finRange l.length := ⟨(List.finRange l.length).toArray, by simp⟩
      have hds : d.size = l.length := by rw [← Array.length_toList, hdl, List.length_finRange]
      have hH : Sort.Holds encF wr (w.heap.size + 1 + 1 + 1) 0 d := by
        intro j hj
        rw [Nat.zero_add, hOr.out.cellAt j (by omega), hOr.out.frozenAt j]
        refine ⟨?_, rfl⟩
        have hjl : j < l.length := by omega
        have e : d[j]! = ⟨j, hjl⟩ := by
          rw [getElem!_pos d j hj]
          have : d.toList[j]'(by simpa using hj) = ⟨j, hjl⟩ := by simp [hdl]
          simpa using this
        rw [e]
        simp [hjl, encF]
      have hcmp : CmpReads Try.prog 188 #[.pointer (some ⟨w.heap.size, 0, none⟩), .pointer (some ⟨w.heap.size + 1 + 1, 0, none⟩)] encF (fun i k : Fin l.length => cmpBy best (vs.map tame) i.val k.val) (w.heap.size + 1 + 1 + 1) 0 d.size wr := by
        intro m os dk hdk x y
        refine meanLess best (vs.map tame) w.heap.size (w.heap.size + 1 + 1) bv cv l.length x.val y.val _ x.isLt y.isLt ?_ ?_ ?_
        · rw [cell_sortWorld _ _ _ _ _ _ _ _ (by simp only; omega) (by simp only; omega)]; exact d4
        · rw [cell_sortWorld _ _ _ _ _ _ _ _ (by simp only; omega) (by simp only; omega)]; exact d7
        · intro t ht
          rw [cell_sortWorld _ _ _ _ _ _ _ _ (by simp only; omega) (by simp only; omega), hVr.out.cellAt t (by omega)]
          have : t < vs.length := by rw [HL.out]; exact ht
          simp [this]
      have hcon := Try.slices_SortFunc_small_sorted encF (fun _ => rfl) _ (swo_cmpBy best (vs.map tame) l.length) 188 _ (w.heap.size + 1 + 1 + 1) 0 l.length d wr (enters_of Try.func188 (by kernel_rfl) rfl) hcmp hH (by omega)
        (fun n W hn => (Try.bits_Len n W (by omega) (by omega)).mono fun _ _ ⟨he, hw⟩ => ⟨⟨_, he⟩, hw⟩)
      rw [hds] at hcon
      have HCON := Lib.hid hcon
      have HH := Lib.hid hH
      have HDL := Lib.hid hdl
      have HDS := Lib.hid hds
      clear hcon hcmp hH hdl hds
      go_wp2_with fail
      refine HCON.out.mono ?_
      rintro e w2 ⟨rfl, d', nn, hp, hs, hw2⟩
      have hp' : Sort.PermIn 0 d.size d d' := by rw [HDS.out]; exact hp
      have hs' : Sort.SortedIn (ltOf (fun i k : Fin l.length => cmpBy best (vs.map tame) i.val k.val)) 0 d.size d' := by rw [HDS.out]; exact hs
      obtain ⟨hsz, hperm, hord⟩ := sorted_rooms best l (vs.map tame) rfl (by rw [List.length_map]; exact HL.out) d' d HDL.out hp' hs'
      have hH2 : Sort.Holds encF w2 (w.heap.size + 1 + 1 + 1) 0 d' := by rw [hw2]; exact Sort.holds_putRow encF wr _ 0 d d' HH.out (by rw [hsz]; exact HDS.out.symm)
      have hc2 : ∀ p : Addr, p.block ≠ w.heap.size + 1 + 1 + 1 → w2.cell? p = wr.cell? p := by intro p hp; rw [hw2]; exact Sort.cell?_putRow_other encF wr _ 0 d' p (Or.inl hp)
      have hz2 : w2.heap.size = wr.heap.size := by rw [hw2]; exact Sort.size_putRow encF wr _ 0 d'
      have hus : ∀ i, i < l.length → ∃ u, (vs.map tame)[i]? = some u ∧ 0 ≤ u ∧ u ≤ 2000000000 ∧ w2.cell? ⟨bv, i, none⟩ = some (.int .i64 u) := by
        intro i hi
        have hi' : i < vs.length := by rw [HL.out]; exact hi
        refine ⟨tame vs[i], by simp [hi'], (tame_bd (HVV.out vs[i] (List.getElem_mem hi')) (by omega)).1, (tame_bd (HVV.out vs[i] (List.getElem_mem hi')) (by omega)).2, ?_⟩
        rw [hc2 _ (by simp only; omega), hVr.out.cellAt i (by omega)]
        simp [hi']
      have hB2 : BedsAt w2 bb ob l := ((HB.out.below b3 hbb).but hbr (by omega) hbbv).same fun o => hc2 _ (by simp only; omega)
      have hO2 : ∀ k, k < l.length → ∃ i, i < l.length ∧ (d'.toList.map Fin.val)[k]? = some i ∧ w2.cell? ⟨w.heap.size + 1 + 1 + 1, k, none⟩ = some (.int .i64 (i : Int)) := by
        intro k hk
        have hk' : k < d'.size := by omega
        refine ⟨(d'[k]).val, (d'[k]).isLt, by simp [hk'], ?_⟩
        have := (hH2 k hk').1
        rw [Nat.zero_add, getElem!_pos d' k hk'] at this
        exact this
      obtain ⟨ord, hord'⟩ : ∃ ord, d'.toList.map Fin.val = ord := ⟨_, rfl⟩
      rw [hord'] at hperm hord hO2
      have hol : ord.length = l.length := by rw [← hord']; simp [hsz]
      have e4 : w2.cell? ⟨w.heap.size, 0, none⟩ = some (.bool best) := (hc2 _ (by simp only; omega)).trans d4
      have e5 : w2.cell? ⟨w.heap.size + 1, 0, none⟩ = some (.int .i64 den) := (hc2 _ (by simp only; omega)).trans d5
      have e7 : w2.cell? ⟨w.heap.size + 1 + 1, 0, none⟩ = some (.slice (some ⟨bv, 0, none⟩) l.length cv) := (hc2 _ (by simp only; omega)).trans d7
      have hbw2 : But bv w.heap.size w w2 := by
        have h1 : But bv w.heap.size wr w2 := ⟨by rw [hw2]; rfl, by rw [hw2]; rfl, by rw [hw2]; rfl, by omega, fun k hk _ => by
          rw [hw2]
          show (Sort.putRow encF wr (w.heap.size + 1 + 1 + 1) 0 d').heap[k]? = _
          simp only [Sort.putRow, Sort.mapBlock, Array.getElem?_modify]
          rw [if_neg (by omega)]⟩
        exact ((But.of b3).trans (hbr.mono (by omega))).trans h1
      have lb := lowsTo_le l 3000 HS.out (by omega) l.length
      have bb' := baseTo_bd l (vs.map tame) 3000 2000000000 HS.out (by omega) (by intro u hu; obtain ⟨t, ht, rfl⟩ := List.mem_map.1 hu; exact tame_bd (HVV.out t ht) (by omega)) (by omega) l.length
      rw [lowsTo_all] at lb
      rw [baseTo_all _ _ (by rw [List.length_map]; exact HL.out)] at bb'
      have hT := mean_sum (best := best) (den := den) (m := 3000) (l := l) (vs := vs) (o := ord.map (roomAt l (vs.map tame))) HL.out HS.out H0.out H1.out (fun i x hx hv => Int.not_lt.2 (hNr.out i x (by have := (List.getElem?_eq_some_iff.1 hx).1; exact this) hx hv)) hperm hord
      obtain ⟨T, hTT⟩ : ∃ T, AimP.base l (vs.map tame) + greedy (den - lows l) (ord.map (roomAt l (vs.map tame))) = T := ⟨_, rfl⟩
      rw [hTT] at hT
      have hl0 := H0.out
      obtain ⟨D, hD⟩ : ∃ D, den - lows l = D := ⟨_, rfl⟩
      obtain ⟨S0, hS0⟩ : ∃ S0, AimP.base l (vs.map tame) = S0 := ⟨_, rfl⟩
      have hDb : 0 ≤ D ∧ D ≤ 3000 := by omega
      have hSb : 0 ≤ S0 ∧ S0 ≤ 60000000000000 := by rw [← hS0]; have : (l.length : Int) * (3000 * 2000000000) ≤ 10 * (3000 * 2000000000) := Int.mul_le_mul_of_nonneg_right (by omega) (by omega); omega
      rw [hD] at hTT ⊢
      rw [hS0] at hTT ⊢
      have HT := Lib.hid hT
      have HTT := Lib.hid hTT
      have HU := Lib.hid hus
      have HB2 := Lib.hid hB2
      have HO2 := Lib.hid hO2
      have HOL := Lib.hid hol
      have HBW := Lib.hid hbw2
      clear hT hTT hus hB2 hO2 hol hbw2 hc2 hw2 hs hp hs' hp' hperm hord hord' hH2 hD hS0 lb bb' hl0 d4 d5 d7 hNr hOr hVr hbr HCON HH HDL HDS hait c4 c5 c6 c7 c8 b3 HV3
      go_wp2
      go_loopw [10, 11, 76] (fun vm vsum vk wx => ∃ (k : Nat) (m s : Int), k ≤ l.length ∧ vk = .int .i64 k ∧ vm = .int .i64 m ∧ vsum = .int .i64 s ∧ 0 ≤ m ∧ m ≤ 3000 ∧ 0 ≤ s ∧ s + m * 2000000000 ≤ 66000000000000 ∧ Below w2.heap.size w2 wx ∧
        Hid (s + greedy m ((ord.drop k).map (roomAt l (vs.map tame))) = T)) (fun _ _ vk _ => l.length - (intOf vk).toNat)
      case atStart => exact ⟨0, D, S0, by omega, rfl, rfl, rfl, hDb.1, hDb.2, hSb.1, by omega, Below.refl _ _, HTT.out⟩
      case round =>
        obtain ⟨k, m, s, hk, rfl, rfl, rfl, hm0, hm1, hs0, hs1, hbx, hG⟩ := hrel
        have hzx := hbx.size
        by_cases hkt : k < l.length
        · obtain ⟨i, hil, hoi, hci⟩ := HO2.out k hkt
          obtain ⟨u, huu, hu0, hu1, hcu⟩ := HU.out i hil
          obtain ⟨x, hx⟩ : ∃ x, l[i]? = some x := ⟨l[i], by simp [hil]⟩
          obtain ⟨x1, x2, x3⟩ := HS.out x (List.mem_of_getElem? hx)
          obtain ⟨q0, q1, q2⟩ := HB2.out i x hx
          have k1 : wr.cell? ⟨w.heap.size + 1 + 1 + 1, k, none⟩ = some (.int .i64 (i : Int)) := (hbx.cell (p := ⟨_, _, none⟩) (by simp only; omega)).trans hci
          have k2 : wr.cell? ⟨bv, i, none⟩ = some (.int .i64 u) := (hbx.cell (p := ⟨_, _, none⟩) (by simp only; omega)).trans hcu
          have k3 : wr.cell? ⟨bb, ob + i*3 + 1, none⟩ = some (.int .i64 x.low) := (hbx.cell (p := ⟨_, _, none⟩) (by simp only; omega)).trans q1
          have k4 : wr.cell? ⟨bb, ob + i*3 + 1 + 1, none⟩ = some (.int .i64 x.high) := (hbx.cell (p := ⟨_, _, none⟩) (by simp only; omega)).trans q2
          have k7 : wr.cell? ⟨w.heap.size + 1 + 1, 0, none⟩ = some (.slice (some ⟨bv, 0, none⟩) l.length cv) := (hbx.cell (p := ⟨_, _, none⟩) (by simp only; omega)).trans e7
          have hkz : (k : Int) < (l.length : Int) := by omega
          have hiz : (i : Int) < (l.length : Int) := by omega
          have hR : (ord.drop k).map (roomAt l (vs.map tame)) = (u, x.high - x.low) :: (ord.drop (k + 1)).map (roomAt l (vs.map tame)) := by
            have : ord.drop k = i :: ord.drop (k + 1) := by
              rw [List.drop_eq_getElem_cons (by rw [HOL.out]; exact hkt)]; congr 1; exact (List.getElem?_eq_some_iff.1 hoi).2
            rw [this, List.map_cons]
            simp [roomAt, huu, hx]
          rw [hR] at hG
          clear hoi huu hx hR q0 q1 q2 hci hcu
          obtain ⟨q, hq⟩ : ∃ q, min m (x.high - x.low) = q := ⟨_, rfl⟩
          have hqb : 0 ≤ q ∧ q ≤ m := by omega
          have pb := prod_bd hqb.1 (Int.le_trans hqb.2 hm1) hu0 hu1
          have pb2 : q * u ≤ q * 2000000000 := Int.mul_le_mul_of_nonneg_left hu1 hqb.1
          go_wp2_with fail
          (try rw [hq])
          obtain ⟨wb, hwb⟩ : ∃ wb, wr.alloc (Obj.cells #[Value.int IntKind.i64 x.low, Value.int IntKind.i64 x.high] 59) = wb := ⟨_, rfl⟩
          rw [hwb]
          have r2 : wb.cell? ⟨bv, i, none⟩ = some (.int .i64 u) := by rw [← hwb, cell_old _ _ _ (by simp only; omega)]; exact k2
          have r7 : wb.cell? ⟨w.heap.size + 1 + 1, 0, none⟩ = some (.slice (some ⟨bv, 0, none⟩) l.length cv) := by rw [← hwb, cell_old _ _ _ (by simp only; omega)]; exact k7
          have hbb2 : Below w2.heap.size w2 wb := by rw [← hwb]; exact hbx.alloc hzx _
          have HQ := Lib.hid hq
          clear hwb k1 k2 k3 k4 k7 hq
          go_quiet (fail)
          go_wp2
          go_roundw
          case rel =>
            refine ⟨k + 1, m - q, s + q * u, by omega, by go_num, ?_, ?_, by omega, by omega, by omega, by omega, bDrewN hbb2 _, ?_⟩
            · first | rfl | (rw [IntWalk.i64_in _ (by omega)])
            · first | rfl | (rw [IntWalk.i64_in (q * u) (by omega), IntWalk.i64_in _ (by omega)])
            have h := hG.out
            simp only [greedy] at h
            rw [HQ.out] at h
            unfold Hid
            omega
          case measure => simp [intOf]; omega
        · obtain rfl : k = l.length := by omega
          have k4 : wr.cell? ⟨w.heap.size, 0, none⟩ = some (.bool best) := (hbx.cell (p := ⟨_, _, none⟩) (by simp only; omega)).trans e4
          have k5 : wr.cell? ⟨w.heap.size + 1, 0, none⟩ = some (.int .i64 den) := (hbx.cell (p := ⟨_, _, none⟩) (by simp only; omega)).trans e5
          have hfin : s = T := by
            have h := hG.out
            rw [List.drop_eq_nil_of_le (by rw [HOL.out]; exact Nat.le_refl _)] at h
            simp only [List.map_nil, greedy] at h
            omega
          have HF := Lib.hid hfin
          clear hfin hG
          cases best with
          | true =>
            go_wp2
            go_ret
            refine ⟨ret_int ?_, HBW.out.trans (.of (hbx.mono (by omega)))⟩
            rw [HR.out, HT.out, HF.out]; simp
          | false =>
            go_wp2
            go_ret
            refine ⟨ret_int ?_, HBW.out.trans (.of (hbx.mono (by omega)))⟩
            rw [HR.out, HT.out, if_neg (by simp), HF.out]

end Go.Proofs.Ytnaehbgmfajdjaa
