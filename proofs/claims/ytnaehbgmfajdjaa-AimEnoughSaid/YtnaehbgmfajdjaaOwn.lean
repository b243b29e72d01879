/- own of the law's package: rules that share no memory with others. -/
import Derived.Test.YtnaehbgmfajdjaaLay
namespace Go.Proofs.Ytnaehbgmfajdjaa
open Go.RowKit AimP

set_option maxRecDepth 100000 in
set_option maxHeartbeats 1000000 in
theorem own_any (r : Rules) (ba oa ca : Nat) (w : World) (hr : RulesOk r) (hA : AimsAt w.heap.size w ba oa r.aims) :
    Calls Try.prog 14 #[rulesV r ba oa ca] w
      fun e w' => ∃ L b c, e = .returned (rulesV r b 0 c) ∧ Below w.heap.size w w' ∧ OwnLaw w.heap.size w' (.slice (some ⟨b, 0, none⟩) r.aims.length c) L ∧ L.map (·.1) = r.aims := by
  obtain ⟨inb, hib, hb0, hb1, hb2⟩ := info_parts infoBed
  obtain ⟨ina, hia, ha0, ha1, ha2⟩ := info_parts infoAim
  have hlen := hr.len
  have hlen1 := hr.len1
  have hlb : ∀ (i : Nat) (x : Int × List PBed), r.aims[i]? = some x → 1 ≤ x.2.length ∧ x.2.length ≤ 10 := fun i x hx => ⟨(hr.aims x (List.mem_of_getElem? hx)).len1, (hr.aims x (List.mem_of_getElem? hx)).len⟩
  unfold rulesV
  obtain ⟨den, hden⟩ : ∃ den, r.den = den := ⟨_, rfl⟩
  obtain ⟨out, hout⟩ : ∃ out, r.out = out := ⟨_, rfl⟩
  rw [hden, hout]
  have HA := Lib.hid hA
  have HLB := Lib.hid hlb
  clear hr hden hout hA hlb
  go_enter Try.func14, Try.ntmps14
  go_wp2_with fail
  obtain ⟨wa, hwa⟩ : ∃ wa, ((w.alloc (Obj.cells #[Value.int IntKind.i64 den, Value.slice (some ⟨ba, oa, none⟩) r.aims.length ca, Value.int .i64 (r.start : Int), Value.int .i64 out] 31)).alloc (Obj.cells #[.int .i64 0, .slice none 0 0, .int .i64 0, .int .i64 0] 31)).alloc (Obj.cells #[.int .i64 den, .slice none 0 0, .int .i64 (r.start : Int), .int .i64 out] 31) = wa := ⟨_, rfl⟩
  have hB : Below w.heap.size w wa := by rw [← hwa]; exact (((Below.refl _ _).alloc (Nat.le_refl _) _).alloc (by simp) _).alloc (by simp <;> omega) _
  have za : wa.heap.size = w.heap.size + 3 := by rw [← hwa]; simp
  have a1 : wa.cell? ⟨w.heap.size, 1, none⟩ = some (.slice (some ⟨ba, oa, none⟩) r.aims.length ca) := by rw [← hwa, cell_old _ _ _ (by simp <;> omega), cell_old _ _ _ (by simp), cell_new _ _ _ _ _ _ rfl]; rfl
  have o1 : wa.heap[w.heap.size + 1]? = some (.cells #[.int .i64 0, .slice none 0 0, .int .i64 0, .int .i64 0] 31 (0, 0)) := by
    rw [← hwa, Below.heap_alloc _ _ _ (by simp), show w.heap.size + 1 = (w.alloc (Obj.cells #[Value.int IntKind.i64 den, Value.slice (some ⟨ba, oa, none⟩) r.aims.length ca, Value.int .i64 (r.start : Int), Value.int .i64 out] 31)).heap.size by simp, World.alloc_heap_new]
  have o2 : wa.heap[w.heap.size + 2]? = some (.cells #[.int .i64 den, .slice none 0 0, .int .i64 (r.start : Int), .int .i64 out] 31 (0, 0)) := by
    have := World.alloc_heap_new ((w.alloc (Obj.cells #[Value.int IntKind.i64 den, Value.slice (some ⟨ba, oa, none⟩) r.aims.length ca, Value.int .i64 (r.start : Int), Value.int .i64 out] 31)).alloc (Obj.cells #[.int .i64 0, .slice none 0 0, .int .i64 0, .int .i64 0] 31)) (Obj.cells #[.int .i64 den, .slice none 0 0, .int .i64 (r.start : Int), .int .i64 out] 31)
    rw [World.size_alloc, World.size_alloc, hwa] at this
    exact this
  have HB := Lib.hid hB
  rw [hwa]
  clear hwa hB
  go_loopw [4] (fun vi wr => ∃ (i : Nat) (v : Value) (L : List Laid), vi = .int .i64 i ∧ i ≤ r.aims.length ∧ Hid (Below w.heap.size w wr) ∧ wr.cell? ⟨w.heap.size, 1, none⟩ = some (.slice (some ⟨ba, oa, none⟩) r.aims.length ca) ∧
      wr.heap[w.heap.size + 1]? = some (.cells #[.int .i64 0, .slice none 0 0, .int .i64 0, .int .i64 0] 31 (0, 0)) ∧ wr.heap[w.heap.size + 2]? = some (.cells #[.int .i64 den, v, .int .i64 (r.start : Int), .int .i64 out] 31 (0, 0)) ∧
      Hid (OwnLaw (w.heap.size + 3) wr v L) ∧ Hid (L.map (·.1) = r.aims.take i) ∧ w.heap.size + 3 ≤ wr.heap.size) (fun vi _ => r.aims.length - (intOf vi).toNat)
  case atStart =>
    exact ⟨0, .slice none 0 0, [], rfl, Nat.zero_le _, HB.out, a1, o1, o2, OwnLaw.nil _ _, by show ([] : List Laid).map (·.1) = r.aims.take 0; simp, by omega⟩
  case round =>
    obtain ⟨i, v, L, rfl, hin, hBw, c1, q1, q2, hCo, hLm, zr⟩ := hrel
    clear a1 o1 o2
    have hLl : L.length = i := by
      have := congrArg List.length hLm.out
      simp only [List.length_map, List.length_take] at this
      omega
    by_cases hlt : i < r.aims.length
    · obtain ⟨x, hx⟩ : ∃ x, r.aims[i]? = some x := ⟨r.aims[i], by simp [hlt]⟩
      have hAr := HA.out.below hBw.out
      obtain ⟨x0, bb, ob, cb, x1, hbb, hbd⟩ := hAr.2 i x hx
      have hbar := hAr.1
      have d1 : wr.cell? ⟨w.heap.size + 2, 1, none⟩ = some v := by simp [World.cell?, q2]
      have hfz : wr.frozen? ⟨w.heap.size + 2, 1, none⟩ = false := by simp [World.frozen?, q2]
      have HX := Lib.hid hx
      have HBD := Lib.hid hbd
      have HQ1 := Lib.hid q1
      have HQ2 := Lib.hid q2
      have HLL := Lib.hid hLl
      have hlx := HLB.out i x hx
      obtain ⟨xa, hxa⟩ : ∃ xa, x.1 = xa := ⟨_, rfl⟩
      obtain ⟨xl, hxl⟩ : ∃ xl, x.2.length = xl := ⟨_, rfl⟩
      rw [hxa] at x0
      rw [hxl] at x1 hlx
      have HXA := Lib.hid hxa
      have HXL := Lib.hid hxl
      clear hx hbd q1 q2 hxa hxl hAr hLl
      go_wp2_with fail
      obtain ⟨wb, hwb⟩ : ∃ wb, wr.alloc (Obj.cells #[.int .i64 xa, .slice (some ⟨bb, ob, none⟩) xl cb] 56) = wb := ⟨_, rfl⟩
      have f0 : wb.cell? ⟨wr.heap.size, 0, none⟩ = some (.int .i64 xa) := by rw [← hwb, cell_new _ _ _ _ _ _ rfl]; rfl
      have f1 : wb.cell? ⟨wr.heap.size, 1, none⟩ = some (.slice (some ⟨bb, ob, none⟩) xl cb) := by rw [← hwb, cell_new _ _ _ _ _ _ rfl]; rfl
      have f2 : wb.cell? ⟨w.heap.size + 2, 1, none⟩ = some v := by rw [← hwb, cell_old _ _ _ (by simp only; omega)]; exact d1
      have hzb : wb.heap.size = wr.heap.size + 1 := by rw [← hwb]; simp
      have hBb : Below wr.heap.size wr wb := by rw [← hwb]; exact (Below.refl _ _).alloc (Nat.le_refl _) _
      rw [hwb]
      have HC1 := Lib.hid c1
      clear d1 c1 x0 x1 hwb
      have HBB := Lib.hid hBb
      have HF2 := Lib.hid hfz
      clear hBb hfz
      refine wp_region_ord (fun W => W.cell? ⟨w.heap.size + 2, 1, none⟩ = some v ∧ W.cell? ⟨wr.heap.size, 0, none⟩ = some (.int .i64 xa) ∧ W.cell? ⟨wr.heap.size, 1, none⟩ = some (.slice (some ⟨bb, ob, none⟩) xl cb)) 14 [(0, 0), (0, 1), (0, 2), (0, 3), (0, 4), (0, 6), (0, 7), (1, 5), (1, 8), (0, 9), (1, 10), (1, 11), (0, 12), (0, 13), (2, 14)] (by kernel_rfl) (by kernel_rfl) ⟨f2, f0, f1⟩ ?_
      simp only [opsOf, List.map_cons, List.map_nil, List.getElem?_cons_zero, List.getElem?_cons_succ]
      repeat (refine wpOrd_take (v := ?_) (by rfl) ?_ (fun _ _ _ h => h) ?_; rotate_left; (focus (intro W hSw; (try dsimp only at hSw); go_simp; (try with_reducible rfl))); (try simp only [Act.put, List.setIfInBounds_toArray, List.set_cons_zero, List.set_cons_succ]))
      refine wpOrd_eff (fun K hK => ?_)
      go_simp
      refine hK.out _ _ ⟨(cell_old wb _ _ (by simp only; omega)).trans f2, (cell_old wb _ _ (by simp only; omega)).trans f0, (cell_old wb _ _ (by simp only; omega)).trans f1⟩ ?_
      clear hK K
      (try simp only [Act.put, List.setIfInBounds_toArray, List.set_cons_zero, List.set_cons_succ])
      obtain ⟨wc, hwc⟩ : ∃ wc, (wb.alloc (Obj.cells #[] 61)).drew = wc := ⟨_, rfl⟩
      have hoE : wc.ownsRow (w.heap.size + 3) 61 3 (.slice (some ⟨wr.heap.size + 1, 0, none⟩) 0 0) 0 [] := by
        have := World.ownsRow_made (base := w.heap.size + 3) (e := 61) (size := 3) wb #[] 0 (by omega) (by decide) rfl
        rw [hzb] at this
        rw [← hwc]; exact this
      have hBc : Below (wr.heap.size + 1) wb wc := by rw [← hwc]; exact ((Below.refl _ _).alloc (by omega) _).trans ⟨rfl, rfl, rfl, Nat.le_refl _, fun _ _ => rfl⟩
      have hzc : wc.heap.size = wr.heap.size + 2 := by rw [← hwc]; show (wb.alloc _).heap.size = _; rw [World.size_alloc, hzb]
      rw [hwc]
      clear hwc
      refine wpOrd_eff (fun K hK => ?_)
      refine step_append_lies _ rfl (.tmp 34) (.tmp 36) 54 rfl (w.heap.size + 3) 61 inb _ 3 24 Try.underlying54 hib hb0 hb1 hb2 rfl (by decide) (.slice (some ⟨wr.heap.size + 1, 0, none⟩) 0 0) 0 [] rfl hoE ⟨bb, ob, none⟩ xl cb (bedCells x.2) rfl ?_ ?_ ?_ ?_ ?_ ?_ ?_ _ rfl ?_
      · rw [bedCells_length, HXL.out]
      · exact bedCells_at (HBD.out.below (HBB.out.trans (hBc.mono (by omega))) (by omega))
      · exact bedCells_one _
      · omega
      · unfold maxLen; omega
      · omega
      · omega
      intro g1 cap1 w3 hown3 hgrow3 hat3 hlt3
      rw [List.nil_append, Nat.zero_add] at hown3
      have hB3 : Below (wr.heap.size + 1) wb w3 := hBc.trans (grown_below hgrow3 (by omega) (fun k hk => by simp [Value.ownBlock] at hk; omega))
      have hg1 : wr.heap.size + 1 ≤ g1 := by
        rcases hat3 with h | h
        · simp [Value.ownBlock] at h; omega
        · omega
      have hz3 : wr.heap.size + 2 ≤ w3.heap.size := by have := hgrow3.size; omega
      have k2 := (hB3.cell (p := ⟨w.heap.size + 2, 1, none⟩) (by simp only; omega)).trans f2
      have k0 := (hB3.cell (p := ⟨wr.heap.size, 0, none⟩) (by simp only; omega)).trans f0
      have k1 := (hB3.cell (p := ⟨wr.heap.size, 1, none⟩) (by simp only; omega)).trans f1
      refine hK.out _ _ ⟨k2, k0, k1⟩ ?_
      clear hK K
      rw [Nat.zero_add]
      (try simp only [Act.put, List.setIfInBounds_toArray, List.set_cons_zero, List.set_cons_succ])
      have HOWN3 := Lib.hid hown3
      have HB3 := Lib.hid (HBB.out.trans (hB3.mono (by omega)))
      clear hown3 hgrow3 hat3 hoE hBc hB3 f0 f1 f2
      repeat (refine wpOrd_take (v := ?_) (by rfl) ?_ (fun _ _ _ h => h) ?_; rotate_left; (focus (intro W hSw; (try dsimp only at hSw); go_simp; (try with_reducible rfl))); (try simp only [Act.put, List.setIfInBounds_toArray, List.set_cons_zero, List.set_cons_succ]))
      refine wpOrd_eff (fun K hK => ?_)
      go_simp
      refine hK.out _ _ ⟨(cell_old w3 _ _ (by simp only; omega)).trans k2, (cell_old w3 _ _ (by simp only; omega)).trans k0, (cell_old w3 _ _ (by simp only; omega)).trans k1⟩ ?_
      clear hK K
      (try simp only [Act.put, List.setIfInBounds_toArray, List.set_cons_zero, List.set_cons_succ])
      obtain ⟨wd, hwd⟩ : ∃ wd, w3.alloc (Obj.cells #[.int .i64 xa, .slice (some ⟨g1, 0, none⟩) xl cap1] 56) = wd := ⟨_, rfl⟩
      have hBd : Below w3.heap.size w3 wd := by rw [← hwd]; exact (Below.refl _ _).alloc (Nat.le_refl _) _
      have hnw := cell_new w3 #[.int .i64 xa, .slice (some ⟨g1, 0, none⟩) xl cap1] 56 (0, 0) w3.heap.size
      rw [hwd] at hnw
      have hzd : wd.heap.size = w3.heap.size + 1 := by rw [← hwd]; simp
      rw [hwd]
      have hCd : OwnLaw (w.heap.size + 3) wd v L := hCo.out.below (HB3.out.trans (hBd.mono (by omega))) (Nat.le_refl _)
      have HOD := Lib.hid hCd
      clear hwd hCd
      have k2d := (hBd.cell (p := ⟨w.heap.size + 2, 1, none⟩) (by simp only; omega)).trans k2
      have k0d := (hBd.cell (p := ⟨wr.heap.size, 0, none⟩) (by simp only; omega)).trans k0
      have k1d := (hBd.cell (p := ⟨wr.heap.size, 1, none⟩) (by simp only; omega)).trans k1
      have hadd : ∀ j, (⟨w3.heap.size, 0, none⟩ : Addr).add j = ⟨w3.heap.size, j, none⟩ := fun j => by unfold Addr.add; split <;> simp_all
      refine wpOrd_eff (fun K hK => ?_)
      refine step_append_lies _ rfl (.tmp 31) (.tmp 39) 26 rfl (w.heap.size + 3) 56 ina _ 2 32 Try.underlying26 hia ha0 ha1 ha2 rfl (by decide) v L.length (aimCells L) rfl HOD.out.own ⟨w3.heap.size, 0, none⟩ 1 1 [.int .i64 xa, .slice (some ⟨g1, 0, none⟩) xl cap1] rfl rfl ?_ ?_ ?_ ?_ ?_ ?_ _ rfl ?_
      · intro j u hu
        rw [hadd, hnw j rfl]
        simpa using hu
      · simp [Value.oneCell']
      · omega
      · have := HLL.out; unfold maxLen; omega
      · have := HLL.out; omega
      · omega
      intro g2 cap2 w4 hown4 hgrow4 hat4 hlt4
      have hB4 : Below (w.heap.size + 3) wd w4 := grown_below hgrow4 (by omega) (fun k hk => (HOD.out.own.lt k hk).1)
      have u2 := (hB4.cell (p := ⟨w.heap.size + 2, 1, none⟩) (by simp only; omega)).trans k2d
      have hv0 : ∀ k, v.ownBlock = some k → k < wr.heap.size := fun k hk => (hCo.out.own.lt k hk).2
      have u0 : w4.cell? ⟨wr.heap.size, 0, none⟩ = _ := (hgrow4.cell_far ⟨wr.heap.size, 0, none⟩ (by simp only; omega) (fun e => by have := hv0 _ e.symm; simp only at this; omega)).trans k0d
      have u1 : w4.cell? ⟨wr.heap.size, 1, none⟩ = _ := (hgrow4.cell_far ⟨wr.heap.size, 1, none⟩ (by simp only; omega) (fun e => by have := hv0 _ e.symm; simp only at this; omega)).trans k1d
      refine hK.out _ _ ⟨u2, u0, u1⟩ ?_
      clear hK K
      (try simp only [Act.put, List.setIfInBounds_toArray, List.set_cons_zero, List.set_cons_succ])
      have hO4 := hCo.out.snoc (W3 := wd) (W4 := w4) (x := x) (g1 := g1) (c1 := cap1) (g2 := g2) (c2 := cap2) (HB3.out.trans (hBd.mono (by omega))) (by omega)
        (by rw [HXL.out]; exact owns_same HOWN3.out fun g hg => hBd.block g (HOWN3.out.lt g hg).2) hgrow4 (by rw [HXA.out, HXL.out]; exact hown4) (hat4.imp id fun h => by omega)
      have HO4 := Lib.hid hO4
      have hBf : Below w.heap.size w w4 := hBw.out.trans ((HB3.out.trans (hBd.mono (by omega))).mono (by omega) |>.trans (hB4.mono (by omega)))
      have hB4w : Below (w.heap.size + 3) wr w4 := ((HB3.out.trans (hBd.mono (by omega))).mono (by omega)).trans hB4
      have z4 : w.heap.size + 3 ≤ w4.heap.size := by have := hgrow4.size; omega
      have hf4 : w4.frozen? ⟨w.heap.size + 2, 1, none⟩ = false := (hB4w.frozen (p := ⟨w.heap.size + 2, 1, none⟩) (by simp only; omega)).trans HF2.out
      have HBF := Lib.hid hBf
      have HB4 := Lib.hid hB4w
      clear hown4 hgrow4 hat4 hBd hB4 k2d k0d k1d k2 k0 k1 hnw hadd hO4 hBf hB4w u0 u1 hv0
      repeat (refine wpOrd_take (v := ?_) (by rfl) ?_ (fun _ _ _ h => h) ?_; rotate_left; (focus (intro W hSw; (try dsimp only at hSw); go_simp; (try with_reducible rfl))); (try simp only [Act.put, List.setIfInBounds_toArray, List.set_cons_zero, List.set_cons_succ]))
      refine wpOrd_tail (fun K hK => ?_)
      go_simp
      refine hK.out _ _ ?_
      clear hK K
      refine wpOrd_done ?_
      go_wp2
      go_roundw
      case rel =>
        have hbs : Below (w.heap.size + 2) w4 (w4.setCell ⟨w.heap.size + 1 + 1, 1, none⟩ (.slice (some ⟨g2, 0, none⟩) (L.length + 1) cap2)) := (Below.refl _ _).setCell (by simp) _
        refine ⟨i + 1, .slice (some ⟨g2, 0, none⟩) (L.length + 1) cap2, L ++ [(x, (g1, cap1))], by go_num, hlt, HBF.out.trans (hbs.mono (by omega)), ?_, ?_, ?_, ?_, ?_, by simpa [World.setCell] using z4⟩
        · exact (hbs.cell (p := ⟨w.heap.size, 1, none⟩) (by simp only; omega)).trans ((HB4.out.cell (p := ⟨w.heap.size, 1, none⟩) (by simp only; omega)).trans HC1.out)
        · exact (hbs.block _ (by omega)).trans ((HB4.out.block _ (by omega)).trans HQ1.out)
        · exact setCell_block ((HB4.out.block _ (by omega)).trans HQ2.out)
        · exact HO4.out.same fun k hk _ => Below.heap_setCell _ _ _ _ (by simp only; omega)
        · show (L ++ [(x, (g1, cap1))]).map (·.1) = r.aims.take (i + 1)
          rw [List.map_append, hLm.out, List.take_add_one, HX.out]
          rfl
      case measure => simp [intOf]; omega
    · obtain rfl : i = r.aims.length := by omega
      have e0 : wr.cell? ⟨w.heap.size + 2, 0, none⟩ = some (.int .i64 den) := by simp [World.cell?, q2]
      have e1 : wr.cell? ⟨w.heap.size + 2, 1, none⟩ = some v := by simp [World.cell?, q2]
      have e2 : wr.cell? ⟨w.heap.size + 2, 2, none⟩ = some (.int .i64 (r.start : Int)) := by simp [World.cell?, q2]
      have e3 : wr.cell? ⟨w.heap.size + 2, 3, none⟩ = some (.int .i64 out) := by simp [World.cell?, q2]
      have n0 : wr.cell? ⟨w.heap.size + 1, 0, none⟩ = some (.int .i64 0) := by simp [World.cell?, q1]
      have n1 : wr.cell? ⟨w.heap.size + 1, 1, none⟩ = some (.slice none 0 0) := by simp [World.cell?, q1]
      have n2 : wr.cell? ⟨w.heap.size + 1, 2, none⟩ = some (.int .i64 0) := by simp [World.cell?, q1]
      have n3 : wr.cell? ⟨w.heap.size + 1, 3, none⟩ = some (.int .i64 0) := by simp [World.cell?, q1]
      have m0 : wr.frozen? ⟨w.heap.size + 1, 0, none⟩ = false := by simp [World.frozen?, q1]
      have m1 : wr.frozen? ⟨w.heap.size + 1, 1, none⟩ = false := by simp [World.frozen?, q1]
      have m2 : wr.frozen? ⟨w.heap.size + 1, 2, none⟩ = false := by simp [World.frozen?, q1]
      have m3 : wr.frozen? ⟨w.heap.size + 1, 3, none⟩ = false := by simp [World.frozen?, q1]
      obtain ⟨g, cap, hv, hg1, hg2⟩ := hCo.out.own.form (by omega)
      subst hv
      rw [hLl] at *
      have HLL := Lib.hid hLl
      have HQ1 := Lib.hid q1
      clear q1 q2 hLl
      go_wp2
      obtain ⟨wz, hwz⟩ : ∃ wz, (((wr.setCell ⟨w.heap.size + 1, 0, none⟩ (.int .i64 den)).setCell ⟨w.heap.size + 1, 1, none⟩ (.slice (some ⟨g, 0, none⟩) r.aims.length cap)).setCell ⟨w.heap.size + 1, 2, none⟩ (.int .i64 (r.start : Int))).setCell ⟨w.heap.size + 1, 3, none⟩ (.int .i64 out) = wz := ⟨_, rfl⟩
      have hbk : wz.heap[w.heap.size + 1]? = some (.cells #[.int .i64 den, .slice (some ⟨g, 0, none⟩) r.aims.length cap, .int .i64 (r.start : Int), .int .i64 out] 31 (0, 0)) := by
        rw [← hwz]
        exact setCell_block (setCell_block (setCell_block (setCell_block HQ1.out)))
      have hbz : Below (w.heap.size + 1) wr wz := by rw [← hwz]; exact ((((Below.refl _ _).setCell (by simp) _).setCell (by simp) _).setCell (by simp) _).setCell (by simp) _
      have hoz : OwnLaw (w.heap.size + 3) wz (.slice (some ⟨g, 0, none⟩) r.aims.length cap) L := by
        refine hCo.out.same fun k hk _ => ?_
        rw [← hwz]
        rw [Below.heap_setCell _ _ _ _ (by simp only; omega), Below.heap_setCell _ _ _ _ (by simp only; omega), Below.heap_setCell _ _ _ _ (by simp only; omega), Below.heap_setCell _ _ _ _ (by simp only; omega)]
      rw [hwz]
      have y0 : wz.cell? ⟨w.heap.size + 1, 0, none⟩ = some (.int .i64 den) := by simp [World.cell?, hbk]
      have y1 : wz.cell? ⟨w.heap.size + 1, 1, none⟩ = some (.slice (some ⟨g, 0, none⟩) r.aims.length cap) := by simp [World.cell?, hbk]
      have y2 : wz.cell? ⟨w.heap.size + 1, 2, none⟩ = some (.int .i64 (r.start : Int)) := by simp [World.cell?, hbk]
      have y3 : wz.cell? ⟨w.heap.size + 1, 3, none⟩ = some (.int .i64 out) := by simp [World.cell?, hbk]
      refine bodyPost_ret (v := .agg #[.int .i64 den, .slice (some ⟨g, 0, none⟩) r.aims.length cap, .int .i64 (r.start : Int), .int .i64 out]) ?_ rfl ?_
      · simp [results, Try.results14, go_sem, y0, y1, y2, y3]
      · exact ⟨L, g, cap, rfl, hBw.out.trans (hbz.mono (by omega)), hoz.mono (by omega), by rw [hLm.out, List.take_of_length_le (Nat.le_refl _)]⟩

end Go.Proofs.Ytnaehbgmfajdjaa
