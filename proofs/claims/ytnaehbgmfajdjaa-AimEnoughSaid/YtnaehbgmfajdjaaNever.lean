/- Never of package aim, at valid rules. -/
import Derived.Deep.Onto
import Derived.Test.YtnaehbgmfajdjaaMin
namespace Go.Proofs.Ytnaehbgmfajdjaa
open Go.RowKit AimP

/-- The scores among the k first ones that are not surely ended. -/
def neversTo (r : Rules) : Nat → List Int
  | 0 => []
  | k + 1 => neversTo r k ++ if numOf (table r false) (((lowest r.out).toNat : Int) + (k : Int)) = never then [((lowest r.out).toNat : Int) + (k : Int)] else []

theorem neversTo_len (r : Rules) : ∀ k, (neversTo r k).length ≤ k
  | 0 => by simp [neversTo]
  | k + 1 => by
    have := neversTo_len r k
    rw [neversTo, List.length_append]
    split <;> simp <;> omega

attribute [local go_sem] Oper.semAt_some

set_option maxRecDepth 100000 in
set_option maxHeartbeats 1000000 in
theorem never_any (r : Rules) (ba oa ca : Nat) (w : World) (hr : RulesOk r) (hf : LawFull r.den r.aims) (hA : AimsAt w.heap.size w ba oa r.aims) :
    Calls Try.prog 48 #[rulesV r ba oa ca] w
      fun e w' => ∃ v, e = .returned (.tuple #[v, .int .i64 0]) ∧ Below w.heap.size w w' ∧ w'.ownsRow w.heap.size 3 1 v (neversTo r (nScores r)).length ((neversTo r (nScores r)).map (Value.int .i64)) := by
  obtain ⟨inf, hin, hz0, hz1, hz2⟩ := info_parts infoInt
  have h0 := fun W (hW : Below w.heap.size w W) => check_aim r ba oa ca W hr hf ((hA.below hW).mono hW.size)
  have h1 := fun W (hW : Below w.heap.size w W) => filled_any r false ba oa ca W hr ((hA.below hW).mono hW.size)
  have hst := hr.start
  have hlow : (lowest r.out).toNat = lowest r.out ∧ (lowest r.out).toNat ≤ 2 := by unfold lowest; split <;> simp
  have hns : nScores r = r.start + 1 - (lowest r.out).toNat := rfl
  have hit := fun bt => scores_iter bt r hr
  have hnl := neversTo_len r
  have hstep : ∀ k, neversTo r (k + 1) = neversTo r k ++ if numOf (table r false) (((lowest r.out).toNat : Int) + (k : Int)) = never then [((lowest r.out).toNat : Int) + (k : Int)] else [] := fun k => rfl
  have htl := table_length r false
  obtain ⟨lo, hlo⟩ : ∃ lo, (lowest r.out).toNat = lo := ⟨_, rfl⟩
  obtain ⟨L, hL⟩ : ∃ L, neversTo r = L := ⟨_, rfl⟩
  have hL0 : L 0 = [] := by rw [← hL]; rfl
  rw [hL] at hnl hstep ⊢
  rw [hlo] at hlow hns hit hstep
  unfold rulesV at *
  obtain ⟨den, hden⟩ : ∃ den, r.den = den := ⟨_, rfl⟩
  obtain ⟨out, hout⟩ : ∃ out, r.out = out := ⟨_, rfl⟩
  rw [hden, hout] at h0 h1 ⊢
  have H0 := Lib.hid h0
  have H1 := Lib.hid h1
  have HIN := Lib.hid hin
  have HZ0 := Lib.hid hz0
  have HZ1 := Lib.hid hz1
  have HZ2 := Lib.hid hz2
  have HIT := Lib.hid hit
  have HST := Lib.hid hstep
  have HNL := Lib.hid hnl
  have HNS := Lib.hid hns
  have HL0 := Lib.hid hL0
  have HTL := Lib.hid htl
  have hlo2 := hlow.2
  clear h0 h1 hr hf hA hden hout hin hz0 hz1 hz2 hit hstep hnl hns hlow hL hL0 hlo htl
  refine calls_marks Try.func48 rfl ?_
  simp only [Try.ntmps48, List.size_toArray, List.length_cons, List.length_nil, Nat.reduceAdd, Nat.reduceSub, Array.replicate_succ, Array.replicate_zero, List.push_toArray, List.append_toArray, List.nil_append, List.cons_append]
  go_wp2_with fail
  obtain ⟨wa, hwa⟩ : ∃ wa, (w.alloc (Obj.cells #[Value.int IntKind.i64 den, Value.slice (some ⟨ba, oa, none⟩) r.aims.length ca, Value.int .i64 (r.start : Int), Value.int .i64 out] 31)).alloc (Obj.cells #[.slice none 0 0] 33) = wa := ⟨_, rfl⟩
  have hB : Below w.heap.size w wa := by rw [← hwa]; exact ((Below.refl _ _).alloc (Nat.le_refl _) _).alloc (by simp) _
  have za : wa.heap.size = w.heap.size + 1 + 1 := by rw [← hwa]; simp
  have a0 : wa.cell? ⟨w.heap.size, 0, none⟩ = some (.int .i64 den) := by rw [← hwa, cell_old _ _ _ (by simp), cell_new _ _ _ _ _ _ rfl]; rfl
  have a1 : wa.cell? ⟨w.heap.size, 1, none⟩ = some (.slice (some ⟨ba, oa, none⟩) r.aims.length ca) := by rw [← hwa, cell_old _ _ _ (by simp), cell_new _ _ _ _ _ _ rfl]; rfl
  have a2 : wa.cell? ⟨w.heap.size, 2, none⟩ = some (.int .i64 (r.start : Int)) := by rw [← hwa, cell_old _ _ _ (by simp), cell_new _ _ _ _ _ _ rfl]; rfl
  have a3 : wa.cell? ⟨w.heap.size, 3, none⟩ = some (.int .i64 out) := by rw [← hwa, cell_old _ _ _ (by simp), cell_new _ _ _ _ _ _ rfl]; rfl
  have l0 : wa.cell? ⟨w.heap.size + 1, 0, none⟩ = some (.slice none 0 0) := by rw [← hwa, cell_new _ _ _ _ _ _ (by simp)]; rfl
  have lf : wa.frozen? ⟨w.heap.size + 1, 0, none⟩ = false := by rw [← hwa, frozen_new _ _ _ _ _ (by simp)]
  rw [hwa]
  refine (H0.out wa hB).mono ?_
  rintro e w1 ⟨rfl, hb1⟩
  have hc1 := (bcell hb1).1
  have b0 := (hc1 w.heap.size 0 (by omega)).trans a0
  have b1 := (hc1 w.heap.size 1 (by omega)).trans a1
  have b2 := (hc1 w.heap.size 2 (by omega)).trans a2
  have b3 := (hc1 w.heap.size 3 (by omega)).trans a3
  have b4 := (hc1 (w.heap.size + 1) 0 (by omega)).trans l0
  have b5 := ((bcell hb1).2 (w.heap.size + 1) 0 (by omega)).trans lf
  have z1 : w.heap.size + 1 + 1 ≤ w1.heap.size := by have := hb1.size; omega
  have HB1 := Lib.hid (hB.trans (hb1.mono (by omega)))
  clear hwa hb1 hc1 hB za a0 a1 a2 a3 l0 lf
  go_wp2_with fail
  refine (H1.out w1 HB1.out).mono ?_
  rintro e wF ⟨n, bt, bn, rfl, hT, hF, hn1, hn2, hbn, hbt⟩
  have c4 := (hF.cell (p := ⟨w.heap.size + 1, 0, none⟩) (by simp only; omega)).trans b4
  have c5 := (hF.frozen (p := ⟨w.heap.size + 1, 0, none⟩) (by simp only; omega)).trans b5
  have HT := Lib.hid hT
  have HF := Lib.hid (HB1.out.trans (hF.mono (by omega)))
  have zF : w.heap.size + 1 + 1 ≤ wF.heap.size := by have := hF.size; omega
  clear hT hF b0 b1 b2 b3 b4 b5
  go_wp2
  obtain ⟨w2, hw2⟩ : ∃ w2, wF.alloc (Obj.cells #[Value.pointer (some ⟨bt, 0, none⟩)] 117) = w2 := ⟨_, rfl⟩
  rw [hw2]
  have hb2 : Below wF.heap.size wF w2 := by rw [← hw2]; exact (Below.refl _ _).alloc (Nat.le_refl _) _
  have z2 : w2.heap.size = wF.heap.size + 1 := by rw [← hw2]; simp
  have d0 : w2.cell? ⟨wF.heap.size, 0, none⟩ = some (.pointer (some ⟨bt, 0, none⟩)) := by rw [← hw2, cell_new _ _ _ _ _ _ rfl]; rfl
  have d4 := (hb2.cell (p := ⟨w.heap.size + 1, 0, none⟩) (by simp only; omega)).trans c4
  have d5 := (hb2.frozen (p := ⟨w.heap.size + 1, 0, none⟩) (by simp only; omega)).trans c5
  have HT2 := Lib.hid (HT.out.below (hb2.mono hn2))
  have HB2 := Lib.hid (HF.out.trans (hb2.mono (by omega)))
  clear hw2 hb2 c4 c5
  refine wp_range (gf := 65) (fst := #[.pointer (some ⟨bt, 0, none⟩)]) (cap := #[]) rfl (enters_of Try.func65 (by kernel_rfl) rfl) (HIT.out bt) (fun _ => rfl)
    (fun k W => But (w.heap.size + 1) w2.heap.size w2 W ∧ w2.heap.size + 2 ≤ W.heap.size ∧ ∃ v, W.cell? ⟨w.heap.size + 1, 0, none⟩ = some v ∧ W.frozen? ⟨w.heap.size + 1, 0, none⟩ = false ∧ W.ownsRow (w2.heap.size + 2) 3 1 v (L k).length ((L k).map (Value.int .i64)))
    (fun _ _ => False) ?G ?own ?I ?It (fun _ _ _ h _ => h) ?start ?round ?done (fun _ _ _ h => h.elim)
  case G =>
    rintro k W _ ⟨h1, h2, h3⟩
    have hc : ∀ o, W.cell? ⟨bt, o, none⟩ = w2.cell? ⟨bt, o, none⟩ := fun o => h1.cell (p := ⟨bt, o, none⟩) (by have := HT2.out.lt; simp only; omega) (by simp only; omega)
    exact ⟨by have := HT2.out.lt; omega, (hc 2).trans HT2.out.c2, (hc 3).trans HT2.out.c3⟩
  case own =>
    rintro W W' j o h1 hj ho _
    have hjW := (Array.getElem?_eq_some_iff.1 ho).1
    rw [Below.block h1 j hjW]
    exact ho
  case I =>
    rintro k W W' ⟨h1, h2, v, h3, h4, h5⟩ h6
    have hz := Below.size h6
    refine ⟨h1.trans (.of (Below.mono h6 (by omega))), by omega, v, (Below.cell h6 (p := ⟨_, _, none⟩) (by simp only; omega)).trans h3, (Below.frozen h6 (p := ⟨_, _, none⟩) (by simp only; omega)).trans h4, ?_⟩
    exact h5.kept (row := none) ⟨h6.os, h6.tape, h6.output, h6.size, fun j hj _ => Below.block h6 j hj⟩ (by cases hv : v.ownBlock <;> simp)
  case It =>
    rintro k W W' ⟨h1, h2, v, h3, h4, h5⟩ ht
    have hb : Below (w2.heap.size + 1) W W' := ⟨ht.os, ht.tape, ht.output, Nat.le_of_eq ht.size.symm, fun j hj => ht.block j (by omega)⟩
    refine ⟨h1.trans (.of (hb.mono (by omega))), by rw [ht.size]; exact h2, v, (hb.cell (p := ⟨_, _, none⟩) (by simp only; omega)).trans h3, (hb.frozen (p := ⟨_, _, none⟩) (by simp only; omega)).trans h4, ?_⟩
    refine h5.kept (row := some (w2.heap.size + 1)) ⟨ht.os, ht.tape, ht.output, Nat.le_of_eq ht.size.symm, fun j _ hne => ht.block j (fun e => hne (by rw [e]))⟩ ?_
    right
    intro e
    have := (h5.lt _ e).1
    omega
  case start =>
    intro W hb hz
    refine ⟨.of hb, by omega, .slice none 0 0, (hb.cell (p := ⟨_, _, none⟩) (by simp only; omega)).trans d4, (hb.frozen (p := ⟨_, _, none⟩) (by simp only; omega)).trans d5, ?_⟩
    rw [HL0.out]
    exact World.ownsRow_nil _ _ _ _
  case round =>
    rintro fn k W rec hk ⟨h1, h2, v, h8, h9, h10⟩ hz hl hD hrec
    obtain ⟨P, hP⟩ : ∃ P, W.putObj (w2.heap.size + 1) (.loop (rec .busy none)) = P := ⟨_, rfl⟩
    have ht : Turn (w2.heap.size + 1) W P := by rw [← hP]; exact Turn.put _ _ _
    have pl : P.heap[w2.heap.size + 1]? = some (.loop (rec .busy none)) := by rw [← hP]; exact World.putObj_heap_same hz
    have pD : P.heap[w2.heap.size]? = some (.deferred (some [])) := (ht.block _ (by omega)).trans hD
    have hb : Below (w2.heap.size + 1) W P := ⟨ht.os, ht.tape, ht.output, Nat.le_of_eq ht.size.symm, fun j hj => ht.block j (by omega)⟩
    have x1 : But (w.heap.size + 1) w2.heap.size w2 P := h1.trans (.of (hb.mono (by omega)))
    have hT := HT2.out
    have htl := hT.lt
    have hnl := hT.nlt
    have hkk := HNS.out
    have hc : ∀ b o, b < w2.heap.size → b ≠ w.heap.size + 1 → P.cell? ⟨b, o, none⟩ = w2.cell? ⟨b, o, none⟩ := fun b o h h' => x1.cell (p := ⟨b, o, none⟩) h h'
    have x0 := (hc wF.heap.size 0 (by omega) (by omega)).trans d0
    have x5 := (hc bt 5 (by omega) (by omega)).trans hT.c5
    have xn := (hc bn (lo + k) (by omega) (by omega)).trans (hT.nums (lo + k) (by rw [HTL.out]; omega))
    rw [Int.natCast_add] at xn
    have x8 := (hb.cell (p := ⟨w.heap.size + 1, 0, none⟩) (by simp only; omega)).trans h8
    have x9 := (hb.frozen (p := ⟨w.heap.size + 1, 0, none⟩) (by simp only; omega)).trans h9
    have x10 : P.ownsRow (w2.heap.size + 2) 3 1 v (L k).length ((L k).map (Value.int .i64)) := by
      refine h10.kept (row := some (w2.heap.size + 1)) ⟨ht.os, ht.tape, ht.output, Nat.le_of_eq ht.size.symm, fun j _ hne => ht.block j (fun e => hne (by rw [e]))⟩ ?_
      right
      intro e
      have := (h10.lt _ e).1
      omega
    have X1 := Lib.hid x1
    have X10 := Lib.hid x10
    have HPL := Lib.hid pl
    have HPD := Lib.hid pD
    have hPz : w2.heap.size + 2 ≤ P.heap.size := by rw [ht.size]; exact h2
    have hsk := HST.out k
    obtain ⟨N, hN⟩ : ∃ N, numOf (table r false) ((lo : Int) + (k : Int)) = N := ⟨_, rfl⟩
    rw [hN] at xn hsk
    have HSK := Lib.hid hsk
    have hlen := HNL.out k
    have hlk : lo + k < r.start + 1 := by omega
    rw [HTL.out] at x5
    have hlk1 : (lo : Int) + (k : Int) < (r.start : Int) + 1 := by omega
    have hlk2 : (0 : Int) ≤ (lo : Int) + (k : Int) := by omega
    rw [hP]
    have HZW := Lib.hid z2
    have zW : wF.heap.size < w2.heap.size := by omega
    have zW2 : w.heap.size + 1 < w2.heap.size := by omega
    clear hrec hP ht pl pD hb hc h1 h8 h9 h10 x1 x10 hsk hN hl hD d0 d4 d5 hT hkk z2
    by_cases hnv : N = 2000000000
    · have hnv' : (N == 2000000000) = true := by simpa using hnv
      have HNV := Lib.hid hnv
      clear hnv
      gi_wp2
      refine ⟨trivial, ?_⟩
      gi_wp2_with (gi_at_builtin; refine wpListIn_append_own _ rfl _ _ 33 rfl (w2.heap.size + 2) 3 inf (.int .i64 0) 1 8 Try.underlying33 HIN.out HZ0.out HZ1.out HZ2.out rfl (by decide) _ (L k).length _ rfl (X10.out.alloc _) ⟨P.heap.size, 0, none⟩ 1 1 [.int .i64 ((lo : Int) + (k : Int))] rfl rfl ?c1 ?c2 ?c3 ?c4 ?c5 ?_)
      case c1 => exact cell_one_new _ _ _
      case c2 => simp [Value.oneCell']
      case c3 => unfold maxLen; omega
      case c4 => omega
      case c5 => simp; omega
      intro v' w3 hown3 hgrow _
      obtain ⟨g, cap, rfl⟩ := ownsRow_succ hown3
      have hgz := hown3.lt g rfl
      have hz3 := hgrow.size
      rw [World.size_alloc] at hz3
      have hal := (Below.refl P.heap.size P).alloc (Nat.le_refl _) (Obj.cells #[Value.int IntKind.i64 ((lo : Int) + (k : Int))] 3)
      have hblk : ∀ j, j < w2.heap.size + 2 → w3.heap[j]? = P.heap[j]? := fun j hj =>
        (hgrow.block j (by simp; omega) (fun e => by have := (X10.out.lt j e.symm).1; omega)).trans (hal.block j (by omega))
      have hb3 : Below (w2.heap.size + 2) P w3 := ⟨hgrow.os, hgrow.tape, hgrow.output, by omega, hblk⟩
      have y8 := (hb3.cell (p := ⟨w.heap.size + 1, 0, none⟩) (by simp only; omega)).trans x8
      have y9 := (hb3.frozen (p := ⟨w.heap.size + 1, 0, none⟩) (by simp only; omega)).trans x9
      have HB3 := Lib.hid hb3
      have HO3 := Lib.hid hown3
      clear hgrow hal hblk hb3 hown3 x8 x9
      gi_wp2
      obtain ⟨w4, hw4⟩ : ∃ w4, w3.setCell ⟨w.heap.size + 1, 0, none⟩ (.slice (some ⟨g, 0, none⟩) ((L k).length + 1) cap) = w4 := ⟨_, rfl⟩
      rw [hw4]
      have hs4 : ∀ j, j ≠ w.heap.size + 1 → w4.heap[j]? = w3.heap[j]? := fun j hj => by rw [← hw4]; exact Below.heap_setCell _ _ _ _ hj
      have z4 : w4.heap.size = w3.heap.size := by rw [← hw4]; simp
      have hb13 := HB3.out
      refine ⟨(hs4 _ (by omega)).trans ((hb13.block _ (by omega)).trans HPL.out), (hs4 _ (by omega)).trans ((hb13.block _ (by omega)).trans HPD.out), ?_, by omega, .slice (some ⟨g, 0, none⟩) ((L k).length + 1) cap, ?_, ?_, ?_⟩
      · rw [← hw4]
        exact (X1.out.trans (.of (hb13.mono (by omega)))).setCell (p := ⟨w.heap.size + 1, 0, none⟩) (Or.inl rfl) _
      · rw [← hw4]; exact World.cell?_setCell_same' _ _ _ (by rw [y8]; rfl)
      · rw [← hw4, World.frozen?_setCell]; exact y9
      · have h := ownsRow_setCell_other (a := ⟨w.heap.size + 1, 0, none⟩) HO3.out (by simp [Value.ownBlock]; omega) (Value.slice (some ⟨g, 0, none⟩) ((L k).length + 1) cap)
        rw [hw4] at h
        rw [HSK.out, if_pos (show N = never from HNV.out), List.length_append, List.map_append]
        exact h
    · have hnv' : (N == 2000000000) = false := by simpa using hnv
      have HNV := Lib.hid hnv
      clear hnv
      gi_wp2
      refine ⟨trivial, ?_⟩
      gi_wp2
      refine ⟨HPL.out, HPD.out, X1.out, hPz, v, x8, x9, ?_⟩
      rw [HSK.out, if_neg (show ¬ N = never from HNV.out), List.append_nil]
      exact X10.out
  case done =>
    rintro W ⟨h1, h2, v, h8, h9, h10⟩ hz hD
    have H1' := Lib.hid h1
    have H10 := Lib.hid h10
    have hvv : ∃ p n c, v = .slice p n c := by
      rcases h10.2 with ⟨h, _⟩ | ⟨g, cap, cur, h, _⟩
      · exact ⟨_, _, _, h⟩
      · exact ⟨_, _, _, h⟩
    obtain ⟨vp, vn, vc, rfl⟩ := hvv
    clear h1 h10 d0 d4 d5
    go_wp2
    obtain ⟨W5, hW5⟩ : ∃ W5, W.setCell ⟨w.heap.size + 1, 0, none⟩ (.slice vp vn vc) = W5 := ⟨_, rfl⟩
    have f1 : W5.heap[w2.heap.size]? = some (.deferred (some [])) := by rw [← hW5]; exact (Below.heap_setCell _ _ _ _ (by simp only; omega)).trans hD
    have k8 : W5.cell? ⟨w.heap.size + 1, 0, none⟩ = some (.slice vp vn vc) := by rw [← hW5]; exact World.cell?_setCell_same' _ _ _ (by rw [h8]; rfl)
    have k1 : But (w.heap.size + 1) w2.heap.size w2 W5 := by rw [← hW5]; exact H1'.out.setCell (p := ⟨w.heap.size + 1, 0, none⟩) (Or.inl rfl) _
    have kz : W5.heap.size = W.heap.size := by rw [← hW5]; simp
    have k10 : W5.ownsRow (w2.heap.size + 2) 3 1 (.slice vp vn vc) (L (nScores r)).length ((L (nScores r)).map (Value.int .i64)) := by
      rw [← hW5]
      refine ownsRow_setCell_other (a := ⟨w.heap.size + 1, 0, none⟩) H10.out ?_ _
      intro e
      have := (H10.out.lt _ e).1
      simp only at this
      omega
    rw [hW5]
    have ht : Turn w2.heap.size W5 (W5.putObj w2.heap.size (.deferred none)) := Turn.put _ _ _
    have k9 : (W5.putObj w2.heap.size (.deferred none)).cell? ⟨w.heap.size + 1, 0, none⟩ = some (.slice vp vn vc) := (World.cell?_of_block (w := W5) (a := ⟨w.heap.size + 1, 0, none⟩) (ht.block _ (by simp only; omega))).trans k8
    refine Or.inr ⟨w2.heap.size, rfl, f1, .tuple #[.slice vp vn vc, .int .i64 0], by simp [results, Try.results48, go_sem, k9], .slice vp vn vc, rfl, ?_, ?_⟩
    · have hb : Below w.heap.size w2 (W5.putObj w2.heap.size (.deferred none)) := (k1.under (by omega)).mono (by omega) |>.trans ⟨ht.os, ht.tape, ht.output, Nat.le_of_eq ht.size.symm, fun j hj => ht.block j (by omega)⟩
      exact HB2.out.trans hb
    · refine World.ownsRow.mono (k10.kept (row := some w2.heap.size) ⟨ht.os, ht.tape, ht.output, Nat.le_of_eq ht.size.symm, fun j _ hne => ht.block j (fun e => hne (by rw [e]))⟩ ?_) (by omega)
      right
      intro e
      have := (k10.lt _ e).1
      omega

end Go.Proofs.Ytnaehbgmfajdjaa
