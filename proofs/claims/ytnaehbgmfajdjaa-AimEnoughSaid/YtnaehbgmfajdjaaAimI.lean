/- newTable, (table).scores and filled of package aim. -/
import Derived.RangeFuncCalls
import Derived.Test.YtnaehbgmfajdjaaAimH
namespace Go.Proofs.Ytnaehbgmfajdjaa
open Go.RowKit AimP


set_option maxRecDepth 100000 in
set_option maxHeartbeats 1000000 in
theorem newTable_any (r : Rules) (best : Bool) (ba oa ca : Nat) (w : World) (hr : RulesOk r) (hA : AimsAt w.heap.size w ba oa r.aims) :
    Calls Try.prog 93 #[rulesV r ba oa ca, .bool best] w
      fun e w' => ∃ bt bn, e = .returned (.pointer (some ⟨bt, 0, none⟩)) ∧ w.heap.size < bn ∧ bt = bn + 1 ∧ TabAt (bt + 1) w' bt r best ba oa ca bn (r.start + 1) (List.replicate (r.start + 1) 0) ∧ Below w.heap.size w w' ∧ bt < w'.heap.size := by
  obtain ⟨i0, hi, hz0, hz1, hz2⟩ := info_parts infoInt
  have hst := hr.start
  obtain ⟨Z, hZ⟩ : ∃ Z, madeCells (Value.int .i64 0).cells ((r.start + 1) * i0.size) = Z := ⟨_, rfl⟩
  have hmk : ∀ W : World, (Instr.makeSlice 33 (.int .i64 ((r.start : Int) + 1)) (.int .i64 ((r.start : Int) + 1))).run Try.prog W = .ok (.slice (some ⟨W.heap.size, 0, none⟩) (r.start + 1) (r.start + 1)) (W.alloc (.cells Z 3)) := by
    intro W
    have := run_make (P := Try.prog) (w := W) 33 3 i0 (.int .i64 0) Try.underlying33 hi hz0 .i64 .i64 ((r.start : Int) + 1) ((r.start : Int) + 1) (by omega) (Int.le_refl _) (by rw [hz2]; omega) (by omega)
    rw [show ((r.start : Int) + 1).toNat = r.start + 1 by omega, hZ] at this
    exact this
  have hwr : IntKind.i64.wrap ((r.start : Int) + 1) = (r.start : Int) + 1 := IntWalk.i64_in _ (by omega)
  have hmk2 : ∀ W : World, (Instr.makeSlice 33 (.int .i64 (IntKind.i64.wrap ((r.start : Int) + 1))) (.int .i64 (IntKind.i64.wrap ((r.start : Int) + 1)))).run Try.prog W = .ok (.slice (some ⟨W.heap.size, 0, none⟩) (r.start + 1) (r.start + 1)) (W.alloc (.cells Z 3)) := by
    intro W; rw [hwr]; exact hmk W
  clear hmk hwr
  have hZv : ∀ j, j < r.start + 1 → Z[j]? = some (.int .i64 0) := by
    intro j hj
    rw [← hZ, hz1, Nat.mul_one]
    have := toList_madeCells_one (Value.int .i64 0) (r.start + 1)
    rw [← Array.getElem?_toList]
    show (madeCells #[Value.int .i64 0] (r.start + 1)).toList[j]? = _
    rw [this]
    simp [hj]
  have HA := Lib.hid hA
  have HZV := Lib.hid hZv
  have HR := Lib.hid hr
  clear hA hZv hr hi hz0 hz1 hz2 hZ
  unfold rulesV
  obtain ⟨den, hden⟩ : ∃ den, r.den = den := ⟨_, rfl⟩
  obtain ⟨out, hout⟩ : ∃ out, r.out = out := ⟨_, rfl⟩
  rw [hden, hout]
  have HD := Lib.hid hden
  have HO := Lib.hid hout
  clear hden hout
  go_enter Try.func93, Try.ntmps93
  go_wp2_with fail
  obtain ⟨wb, hwb⟩ : ∃ wb, w.alloc (Obj.cells #[Value.int .i64 den, Value.slice (some ⟨ba, oa, none⟩) r.aims.length ca, Value.int .i64 (r.start : Int), Value.int .i64 out] 31) = wb := ⟨_, rfl⟩
  rw [hwb]
  have c0 : wb.cell? ⟨w.heap.size, 0, none⟩ = some (.int .i64 den) := by rw [← hwb, cell_new _ _ _ _ _ _ rfl]; rfl
  have c1 : wb.cell? ⟨w.heap.size, 1, none⟩ = some (.slice (some ⟨ba, oa, none⟩) r.aims.length ca) := by rw [← hwb, cell_new _ _ _ _ _ _ rfl]; rfl
  have c2 : wb.cell? ⟨w.heap.size, 2, none⟩ = some (.int .i64 (r.start : Int)) := by rw [← hwb, cell_new _ _ _ _ _ _ rfl]; rfl
  have c3 : wb.cell? ⟨w.heap.size, 3, none⟩ = some (.int .i64 out) := by rw [← hwb, cell_new _ _ _ _ _ _ rfl]; rfl
  have hz : wb.heap.size = w.heap.size + 1 := by rw [← hwb]; simp
  have hb : Below w.heap.size w wb := by rw [← hwb]; exact (Below.refl _ _).alloc (Nat.le_refl _) _
  have HZ := Lib.hid hz
  clear hwb hz
  go_region_held3 (fun w' => w'.cell? ⟨w.heap.size, 0, none⟩ = some (.int .i64 den) ∧ w'.cell? ⟨w.heap.size, 1, none⟩ = some (.slice (some ⟨ba, oa, none⟩) r.aims.length ca) ∧ w'.cell? ⟨w.heap.size, 2, none⟩ = some (.int .i64 (r.start : Int)) ∧ w'.cell? ⟨w.heap.size, 3, none⟩ = some (.int .i64 out)) (go_keep) (fail)
  go_wp2
  go_ret
  obtain ⟨w2, hw2⟩ : ∃ w2, wb.alloc (Obj.cells Z 3) = w2 := ⟨_, rfl⟩
  rw [hw2]
  have z2 : w2.heap.size = wb.heap.size + 1 := by rw [← hw2]; simp
  have b2 : Below wb.heap.size wb w2 := by rw [← hw2]; exact (Below.refl _ _).alloc (Nat.le_refl _) _
  have hz := HZ.out
  have hnum : ∀ i, i < (List.replicate (r.start + 1) (0 : Int)).length → numOf (List.replicate (r.start + 1) (0 : Int)) i = 0 := by
    intro i hi
    rw [List.length_replicate] at hi
    simp [numOf, hi]
  refine ⟨wb.heap.size + 1, wb.heap.size, rfl, by omega, rfl, ?_, ?_, ?_⟩
  · refine TabAt.below (W := w2.alloc (Obj.cells #[.int .i64 den, .slice (some ⟨ba, oa, none⟩) r.aims.length ca, .int .i64 (r.start : Int), .int .i64 out, .bool best, .slice (some ⟨wb.heap.size, 0, none⟩) (r.start + 1) (r.start + 1)] 116)) ?_ ⟨rfl, rfl, rfl, Nat.le_refl _, fun _ _ => rfl⟩
    refine ⟨by omega, by omega, ?_, ?_, ?_, ?_, ?_, ?_, ?_, by omega, ?_, ?_⟩
    · rw [cell_new _ _ _ _ _ _ z2.symm, HD.out]; rfl
    · rw [cell_new _ _ _ _ _ _ z2.symm]; rfl
    · rw [cell_new _ _ _ _ _ _ z2.symm]; rfl
    · rw [cell_new _ _ _ _ _ _ z2.symm, HO.out]; rfl
    · rw [cell_new _ _ _ _ _ _ z2.symm]; rfl
    · rw [cell_new _ _ _ _ _ _ z2.symm, List.length_replicate]; rfl
    · exact (HA.out.below ((hb.trans (b2.mono (by omega))).alloc (by omega) _)).mono (by omega)
    · intro i hi
      rw [hnum i hi]
      rw [List.length_replicate] at hi
      rw [cell_old _ _ _ (by simp only; omega), ← hw2, cell_new _ _ _ _ _ _ rfl]
      exact HZV.out i hi
    · intro o
      rw [frozen_old _ _ _ (by simp only; omega), ← hw2, frozen_new _ _ _ _ _ rfl]
  · exact ((hb.trans (b2.mono (by omega))).alloc (by omega) _).trans ⟨rfl, rfl, rfl, Nat.le_refl _, fun _ _ => rfl⟩
  · simp; omega

/-- What the iterator over the scores needs. -/
def ScoresG (bt : Nat) (r : Rules) (W : World) : Prop := bt < W.heap.size ∧ W.cell? ⟨bt, 2, none⟩ = some (.int .i64 (r.start : Int)) ∧ W.cell? ⟨bt, 3, none⟩ = some (.int .i64 r.out)

def ScoresOwn (W W' : World) : Prop := Below W.heap.size W W'

set_option maxRecDepth 100000 in
set_option maxHeartbeats 1000000 in
theorem scores_iter (bt : Nat) (r : Rules) (hr : RulesOk r) :
    Iter Try.prog 65 #[.pointer (some ⟨bt, 0, none⟩)] #[] (nScores r)
      (fun k => #[.int .i64 (((lowest r.out).toNat : Int) + (k : Int))]) (ScoresG bt r) ScoresOwn := by
  intro l J Jx hG hOwn hY W hJ
  have HG := Lib.hid hG
  have HOWN := Lib.hid hOwn
  have HY := Lib.hid hY
  have hst := hr.start
  have hst2 := hr.start2
  have hlow : (lowest r.out).toNat = lowest r.out ∧ (lowest r.out).toNat ≤ 2 := by unfold lowest; split <;> simp
  obtain ⟨lo, hlo⟩ : ∃ lo : Nat, (lowest r.out).toNat = lo := ⟨_, rfl⟩
  rw [hlo] at hlow HY
  have hns : nScores r = r.start + 1 - lo := by unfold nScores; rw [hlo]
  have hcall := fun W => lowest_any r.out (lo : Int) W hlow.1
  have HC := Lib.hid hcall
  have HNS := Lib.hid hns
  have HLO := Lib.hid hlo
  have hlo2 := hlow.2
  have g := hG 0 W hJ
  have g0 := g.1
  have g1 := g.2.1
  have g2 := g.2.2
  have HJ := Lib.hid hJ
  clear hG hOwn hY hJ hr hlow hcall hns hlo g
  refine callsIn_of_wp Try.func65 rfl trivial ?_ rfl
  simp only [Try.ntmps65, List.size_toArray, List.length_cons, List.length_nil, Nat.reduceAdd, Nat.reduceSub, Array.replicate_succ, Array.replicate_zero, List.push_toArray, List.append_toArray, List.nil_append, List.cons_append]
  gi_wp2_with fail
  refine ⟨trivial, rfl, callsIn_wide.2 ((HC.out W).mono ?_)⟩
  rintro e w2 ⟨rfl, rfl⟩
  gi_wp2_with fail
  gi_loopw [4] (fun vk wr => ∃ k : Nat, k ≤ r.start + 1 - lo ∧ vk = .int .i64 ((lo : Int) + (k : Int)) ∧ Hid (J k wr)) (fun vk _ => r.start + 1 - (intOf vk).toNat)
  case atStart => exact ⟨0, by omega, rfl, HJ.out⟩
  case round =>
    obtain ⟨k, hk, rfl, hJk⟩ := hrel
    have g := HG.out k wr hJk.out
    have q0 := g.1
    have q1 := g.2.1
    clear g g0 g1 g2
    by_cases hkt : k < r.start + 1 - lo
    · have hle : (lo : Int) + (k : Int) ≤ (r.start : Int) := by omega
      obtain ⟨fn, tmps, assign, body, hy, hR⟩ := HY.out k wr (by rw [HNS.out]; exact hkt) hJk.out
      have HRR := Lib.hid hR
      clear hR
      gi_wp2_with fail
      refine ⟨rfl, HRR.out.mono ?_⟩
      rintro e W3 (⟨rfl, hJ3⟩ | ⟨rfl, hJx3⟩)
      · gi_wp2
        go_roundw
        case rel => exact ⟨k + 1, by omega, by go_num, hJ3⟩
        case measure => simp [intOf]; omega
      · gi_wp2
        go_end0
        exact ⟨⟨_, rfl⟩, .inr ⟨k + 1, by rw [HNS.out]; omega, hJx3⟩⟩
    · obtain rfl : k = r.start + 1 - lo := by omega
      have hle : ¬ ((lo : Int) + ((r.start + 1 - lo : Nat) : Int) ≤ (r.start : Int)) := by omega
      have hN := HNS.out
      gi_wp2
      refine ⟨fun _ h => (by cases h), ?_⟩
      gi_wp2
      go_end0
      refine ⟨⟨_, rfl⟩, .inl ?_⟩
      rw [hN]; exact hJk.out

attribute [local go_sem] Oper.semAt_some

set_option maxRecDepth 100000 in
set_option maxHeartbeats 1000000 in
theorem filled_any (r : Rules) (best : Bool) (ba oa ca : Nat) (w : World) (hr : RulesOk r) (hA : AimsAt w.heap.size w ba oa r.aims) :
    Calls Try.prog 51 #[rulesV r ba oa ca, .bool best] w
      fun e w' => ∃ n bt bn, e = .returned (.pointer (some ⟨bt, 0, none⟩)) ∧ TabAt n w' bt r best ba oa ca bn (r.start + 1) (table r best) ∧ Below w.heap.size w w' ∧ w.heap.size < n ∧ n ≤ w'.heap.size ∧ w.heap.size < bn ∧ w.heap.size < bt := by
  have hnt := newTable_any r best ba oa ca
  have HNT := Lib.hid hnt
  have HA := Lib.hid hA
  have HR := Lib.hid hr
  clear hnt hA
  unfold rulesV at HNT ⊢
  obtain ⟨den, hden⟩ : ∃ den, r.den = den := ⟨_, rfl⟩
  obtain ⟨out, hout⟩ : ∃ out, r.out = out := ⟨_, rfl⟩
  rw [hden, hout] at HNT ⊢
  have HD := Lib.hid hden
  have HO := Lib.hid hout
  clear hden hout
  refine calls_marks Try.func51 rfl ?_
  simp only [Try.ntmps51, List.size_toArray, List.length_cons, List.length_nil, Nat.reduceAdd, Nat.reduceSub, Array.replicate_succ, Array.replicate_zero, List.push_toArray, List.append_toArray, List.nil_append, List.cons_append]
  have hst := hr.start
  go_wp2_with fail
  have b0 : Below w.heap.size w (w.alloc (Obj.cells #[.int .i64 den, .slice (some ⟨ba, oa, none⟩) r.aims.length ca, .int .i64 (r.start : Int), .int .i64 out] 31)) := (Below.refl _ _).alloc (Nat.le_refl _) _
  refine (HNT.out _ HR.out ((HA.out.below b0).mono (by simp))).mono ?_
  rintro e w1 ⟨bt, bn, rfl, hbn, hbt, hT1, hB1, hz1⟩
  have b1 : Below w.heap.size w w1 := b0.trans (hB1.mono (by simp))
  have hbn' : w.heap.size < bn := by simp at hbn; omega
  have hbt' : w.heap.size < bt := by omega
  obtain ⟨n, hn⟩ : ∃ n, bt + 1 = n := ⟨_, rfl⟩
  rw [hn] at hT1
  have HT1 := Lib.hid hT1
  have HB1 := Lib.hid b1
  have hnz : n ≤ w1.heap.size := by omega
  have hnn : w.heap.size < n := by omega
  have hbnn : bn < n := by omega
  have hbtn : bt < n := by omega
  clear b0 hT1 hB1 b1 hbn hbt
  go_wp2
  obtain ⟨w2, hw2⟩ : ∃ w2, w1.alloc (Obj.cells #[Value.pointer (some ⟨bt, 0, none⟩)] 117) = w2 := ⟨_, rfl⟩
  rw [hw2]
  have z2 : w2.heap.size = w1.heap.size + 1 := by rw [← hw2]; simp
  have c2 : w2.cell? ⟨w1.heap.size, 0, none⟩ = some (.pointer (some ⟨bt, 0, none⟩)) := by rw [← hw2, cell_new _ _ _ _ _ _ rfl]; rfl
  have hB2 : Below w1.heap.size w1 w2 := by rw [← hw2]; exact (Below.refl _ _).alloc (Nat.le_refl _) _
  have hT2 : TabAt n w2 bt r best ba oa ca bn (r.start + 1) (fillTo r best 0) := HT1.out.below (hB2.mono hnz)
  have hlow : (lowest r.out).toNat = lowest r.out ∧ (lowest r.out).toNat ≤ 2 := by unfold lowest; split <;> simp
  have hns : nScores r = r.start + 1 - (lowest r.out).toNat := rfl
  have hfl := fun (k : Nat) (W : World) (hk : k < nScores r) (hn : n ≤ W.heap.size) (hT : TabAt n W bt r best ba oa ca bn (r.start + 1) (fillTo r best k)) =>
    fill_any n bt ((lowest r.out).toNat + k) r best ba oa ca bn (r.start + 1) (fillTo r best k) W (by rw [fillTo_length]; omega) HR.out (by omega) (by omega) (fillTo_ok _ _ _) hn hT
  have hit := scores_iter bt r HR.out
  have HFL := Lib.hid hfl
  clear hfl hw2
  refine wp_range (gf := 65) (fst := #[.pointer (some ⟨bt, 0, none⟩)]) (cap := #[]) rfl (enters_of Try.func65 (by kernel_rfl) rfl) hit (fun _ => rfl)
    (fun k W => But bn w2.heap.size w2 W ∧ TabAt n W bt r best ba oa ca bn (r.start + 1) (fillTo r best k)) (fun _ _ => False) ?G ?own ?I ?It (fun _ _ _ h _ => h) ?start ?round ?done (fun _ _ _ h => h.elim)
  case G =>
    rintro k W hz ⟨h1, h2⟩
    exact ⟨by omega, h2.c2, h2.c3⟩
  case own =>
    rintro W W' j o h1 hj ho _
    have hjW := (Array.getElem?_eq_some_iff.1 ho).1
    rw [h1.block j hjW]
    exact ho
  case I =>
    rintro k W W' ⟨h1, h2⟩ h3
    have hz := h1.size
    exact ⟨h1.trans (.of (Below.mono h3 (by omega))), h2.below (Below.mono h3 (by omega))⟩
  case It =>
    rintro k W W' ⟨h1, h2⟩ ht
    have hz := h1.size
    have hb : Below w2.heap.size W W' := ⟨ht.os, ht.tape, ht.output, Nat.le_of_eq ht.size.symm, fun j hj => ht.block j (by omega)⟩
    exact ⟨h1.trans (.of hb), h2.below (hb.mono (by omega))⟩
  case start =>
    intro W hb hz
    exact ⟨.of hb, hT2.below (hb.mono (by omega))⟩
  case round =>
    rintro fn k W rec hk ⟨h1, h2⟩ hz hl hD hrec
    obtain ⟨P, hP⟩ : ∃ P, W.putObj (w2.heap.size + 1) (.loop (rec .busy none)) = P := ⟨_, rfl⟩
    have ht : Turn (w2.heap.size + 1) W P := by rw [← hP]; exact Turn.put _ _ _
    have pl : P.heap[w2.heap.size + 1]? = some (.loop (rec .busy none)) := by rw [← hP]; exact World.putObj_heap_same hz
    have pD : P.heap[w2.heap.size]? = some (.deferred (some [])) := (ht.block _ (by omega)).trans hD
    have hb : Below w2.heap.size W P := ⟨ht.os, ht.tape, ht.output, Nat.le_of_eq ht.size.symm, fun j hj => ht.block j (by omega)⟩
    have p1 : But bn w2.heap.size w2 P := h1.trans (.of hb)
    have p2 : TabAt n P bt r best ba oa ca bn (r.start + 1) (fillTo r best k) := h2.below (hb.mono (by omega))
    have p3 : P.cell? ⟨w1.heap.size, 0, none⟩ = some (.pointer (some ⟨bt, 0, none⟩)) := (p1.cell (p := ⟨w1.heap.size, 0, none⟩) (by simp only; omega) (by simp only; omega)).trans c2
    have pz : P.heap.size = W.heap.size := ht.size
    have hcall := HFL.out k P hk (by omega) p2
    rw [Int.natCast_add] at hcall
    have HC := Lib.hid hcall
    have HP1 := Lib.hid p1
    obtain ⟨lo, hlo⟩ : ∃ lo : Nat, (lowest r.out).toNat = lo := ⟨_, rfl⟩
    rw [hlo] at HC ⊢
    have HLO := Lib.hid hlo
    rw [hP]
    clear hrec h1 h2 hl hD hP p1 p2 hcall ht hb hT2 hlow hns hit c2 hlo
    gi_wp2_with fail
    refine ⟨trivial, ?_⟩
    gi_wp2_with fail
    refine ⟨trivial, rfl, CallsIn.inRound _ (callsIn_wide.2 (HC.out.mono ?_))⟩
    rintro e P2 ⟨rfl, q1, q2⟩
    gi_wp2
    have hbn2 : ¬ (w2.heap.size = bn) := by omega
    refine ⟨(q2.block _ (by omega) (by omega)).trans pl, (q2.block _ (by omega) (by omega)).trans pD, HP1.out.trans (q2.mono (by omega)), ?_⟩
    rw [← HLO.out] at q1
    exact q1
  case done =>
    rintro W ⟨h1, h2⟩ hz hD
    have c3 : W.cell? ⟨w1.heap.size, 0, none⟩ = some (.pointer (some ⟨bt, 0, none⟩)) := (h1.cell (p := ⟨w1.heap.size, 0, none⟩) (by simp only; omega) (by simp only; omega)).trans c2
    have HH1 := Lib.hid h1
    have HH2 := Lib.hid h2
    clear h1 h2 hT2 hit hlow hns c2
    go_wp2
    have ht : Turn w2.heap.size W (W.putObj w2.heap.size (.deferred none)) := Turn.put _ _ _
    have hb : Below w2.heap.size W (W.putObj w2.heap.size (.deferred none)) := ⟨ht.os, ht.tape, ht.output, Nat.le_of_eq ht.size.symm, fun j hj => ht.block j (by omega)⟩
    refine Or.inr ⟨w2.heap.size, rfl, hD, .pointer (some ⟨bt, 0, none⟩), by simp [results, Try.results51, go_sem], ?_⟩
    refine ⟨n, bt, bn, rfl, HH2.out.below (hb.mono (by omega)), ?_, hnn, ?_, hbn', hbt'⟩
    · have hb12 := (HB1.out.trans (hB2.mono (by omega))).trans (((HH1.out.trans (.of hb)).under (by omega)).mono (Nat.le_of_lt hbn'))
      exact hb12
    · rw [ht.size]; omega

end Go.Proofs.Ytnaehbgmfajdjaa
