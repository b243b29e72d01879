/- (table).from and (table).holds of package aim. -/
import Derived.Test.YtnaehbgmfajdjaaAimF
namespace Go.Proofs.Ytnaehbgmfajdjaa
open Go.RowKit AimP

theorem zeroVis : Try.zeroCells247 = #[.pointer none, .int .i64 0] ++ Array.replicate 244 (.int .i64 0) := by kernel_rfl

theorem visCells (p q : Value) : ((Try.zeroCells247.setIfInBounds 0 p).setIfInBounds 1 q)[0]? = some p ∧ ((Try.zeroCells247.setIfInBounds 0 p).setIfInBounds 1 q)[1]? = some q ∧
    ∀ j, 2 ≤ j → j < 246 → ((Try.zeroCells247.setIfInBounds 0 p).setIfInBounds 1 q)[j]? = some (.int .i64 0) := by
  rw [zeroVis]
  refine ⟨by simp, by simp, fun j h1 h2 => ?_⟩
  rw [Array.getElem?_setIfInBounds_ne (by omega), Array.getElem?_setIfInBounds_ne (by omega), Array.getElem?_append_right (by simp; omega)]
  have : j - 2 < 244 := by omega
  simp [this]

set_option maxRecDepth 100000 in
set_option maxHeartbeats 1000000 in
theorem from_any (bt s : Nat) (V : Nat → Int → Int) (w : World) :
    Calls Try.prog 96 #[.pointer (some ⟨bt, 0, none⟩), .int .i64 (s : Int)] w
      fun e w' => ∃ bv, e = .returned (.pointer (some ⟨bv, 0, none⟩)) ∧ bv = w.heap.size ∧ Below w.heap.size w w' ∧ VisAt w' bv bt s V := by
  go_enter Try.func96, Try.ntmps96
  go_wp2
  go_ret
  obtain ⟨v0, v1, v2⟩ := visCells (Value.pointer (some ⟨bt, 0, none⟩)) (Value.int IntKind.i64 (s : Int))
  refine ⟨w.heap.size, rfl, rfl, (Below.refl _ _).alloc (Nat.le_refl _) _, by simp, fun o => frozen_new _ _ _ _ _ rfl, ?_, ?_, fun d x hd hx => ⟨0, ?_, Or.inl rfl⟩⟩
  · rw [cell_new _ _ _ _ _ _ rfl]; exact v0
  · rw [cell_new _ _ _ _ _ _ rfl]; exact v1
  · rw [cell_new _ _ _ _ _ _ rfl]; exact v2 _ (by omega) (by omega)

theorem value_zero (bv bt s : Nat) (r : Rules) (best : Bool) (ba oa ca bn cn : Nat) (num : List Int) (hsn : s < num.length) : ValOk bv bt s r best ba oa ca bn cn num (fun d x => val r best num s d x) 0 := by
  intro x w hx0 hxs hT hI
  have HT := Lib.hid hT
  have HI := Lib.hid hI
  have i0 := hI.c0
  have t5 := hT.c5
  have tn := hT.nums x (by omega)
  have z1 := hI.lt
  have z2 : bt < w.heap.size := Nat.lt_trans hT.lt hI.lt
  have z3 : bn < w.heap.size := Nat.lt_trans hT.nlt hI.lt
  have hv : val r best num s 0 (x : Int) = numOf num x := rfl
  have hx1 : (x : Int) < (num.length : Int) := by omega
  have HVV := Lib.hid hv
  obtain ⟨N, hN⟩ : ∃ N, numOf num (x : Int) = N := ⟨_, rfl⟩
  rw [hN] at tn
  have HN := Lib.hid hN
  clear hT hI hv hN
  show Calls Try.prog 102 #[.pointer (some ⟨bv, 0, none⟩), .int .i64 (x : Int), .int .i64 ((0 : Nat) : Int)] w _
  rw [show ((0 : Nat) : Int) = 0 from rfl]
  refine calls_marks Try.func102 rfl ?_
  simp only [Try.ntmps102, List.size_toArray, List.length_cons, List.length_nil, Nat.reduceAdd, Nat.reduceSub, Array.replicate_succ, Array.replicate_zero, List.push_toArray, List.append_toArray, List.nil_append, List.cons_append]
  go_wp2_with fail
  refine Or.inl ⟨rfl, .int .i64 N, by simp [results, Try.results102, go_sem], ?_, ?_, ?_⟩
  · rw [HVV.out, HN.out]
  · exact (But.refl _ _ _).alloc (Nat.le_refl _) _
  · exact HI.out.below ((Below.refl _ _).alloc (Nat.le_refl _) _) HI.out.lt

/-- The value of a position, whatever darts are to be thrown. -/
theorem value_all (bv bt s : Nat) (r : Rules) (best : Bool) (ba oa ca bn cn : Nat) (num : List Int) (hsn : s < num.length) (hr : RulesOk r) (hs60 : s ≤ r.start) (hnum : NumOk num) :
    ∀ d, d ≤ 3 → ValOk bv bt s r best ba oa ca bn cn num (fun d x => val r best num s d x) d
  | 0, _ => value_zero bv bt s r best ba oa ca bn cn num hsn
  | d + 1, h => value_succ bv bt s r best ba oa ca bn cn num d (by omega) hsn hr hs60 hnum (value_all bv bt s r best ba oa ca bn cn num hsn hr hs60 hnum d (by omega))

set_option maxRecDepth 100000 in
set_option maxHeartbeats 1000000 in
theorem holds_any (n bt s : Nat) (r : Rules) (best : Bool) (ba oa ca bn cn : Nat) (num : List Int) (q : Bool) (w : World) (hsn : s < num.length) (hr : RulesOk r) (hs60 : s ≤ r.start) (hs0 : lowest r.out ≤ (s : Int)) (hnum : NumOk num)
    (hn : n ≤ w.heap.size) (hT : TabAt n w bt r best ba oa ca bn cn num) (hq : q = holds r best num s) :
    Calls Try.prog 66 #[.pointer (some ⟨bt, 0, none⟩), .int .i64 (s : Int)] w fun e w' => e = .returned (.bool q) ∧ Below w.heap.size w w' := by
  have hnum' := numOf_bd hnum (s : Int)
  have hvb := val_bd hr hnum best s 3 (s : Int)
  obtain ⟨N, hN⟩ : ∃ N, numOf num (s : Int) = N := ⟨_, rfl⟩
  obtain ⟨v, hv⟩ : ∃ v, val r best num s 3 (s : Int) = v := ⟨_, rfl⟩
  have hfrom := from_any bt s (fun d x => val r best num s d x) w
  have hval := fun bv W h1 h2 => value_all bv bt s r best ba oa ca bn cn num hsn hr hs60 hnum 3 (by omega) s W hs0 (Nat.le_refl _) h1 h2
  simp only [hv] at hval
  rw [hN] at hnum'
  rw [hv] at hvb
  have HF := Lib.hid hfrom
  have HVAL := Lib.hid hval
  have HT := Lib.hid hT
  have HN := Lib.hid hN
  have HVV := Lib.hid hv
  have HQ := Lib.hid hq
  unfold never at hnum' hvb
  have hsl : (s : Int) < (num.length : Int) := by omega
  clear hfrom hval hT hN hv hq hr hnum
  cases best with
  | true =>
    have hfin : q = decide (N ≤ 1000000 + v) := by rw [HQ.out, holds, if_pos rfl, HN.out, HVV.out]; rfl
    have HFIN := Lib.hid hfin
    clear hfin
    go_enter Try.func66, Try.ntmps66
    go_wp2_with fail
    refine HF.out.mono ?_
    rintro e w1 ⟨bv, rfl, hbv, hb1, hv1⟩
    have HBV := Lib.hid hbv
    have hT1 := (HT.out.below (hb1.mono hn)).mono (m := bv) (by rw [hbv]; exact hn)
    have hbvz := hv1.lt
    have hH1 := Lib.hid hT1
    have hV1 := Lib.hid hv1
    clear hbv hT1 hv1
    go_wp2_with fail
    refine (HVAL.out bv w1 hH1.out hV1.out).mono ?_
    rintro e w2 ⟨rfl, hb2, _⟩
    have hT2 := hH1.out.below (hb2.under (Nat.le_of_lt hbvz))
    have t4 := hT2.c4
    have t5 := hT2.c5
    have tn := hT2.nums s hsn
    rw [HN.out] at tn
    clear hT2
    go_wp2
    go_ret
    refine ⟨ret_bool ?_, hb1.trans ((hb2.mono hb1.size).below (by rw [HBV.out]; exact Nat.le_refl _))⟩
    rw [HFIN.out]
  | false =>
    have hfin : q = decide (1000000 + v ≤ N ∨ N = 2000000000) := by rw [HQ.out, holds, if_neg (by simp), HN.out, HVV.out]; rfl
    have HFIN := Lib.hid hfin
    clear hfin
    by_cases hle : 1000000 + v ≤ N
    · go_enter Try.func66, Try.ntmps66
      go_wp2_with fail
      refine HF.out.mono ?_
      rintro e w1 ⟨bv, rfl, hbv, hb1, hv1⟩
      have HBV := Lib.hid hbv
      have hT1 := (HT.out.below (hb1.mono hn)).mono (m := bv) (by rw [hbv]; exact hn)
      have hbvz := hv1.lt
      have hH1 := Lib.hid hT1
      have hV1 := Lib.hid hv1
      clear hbv hT1 hv1
      go_wp2_with fail
      refine (HVAL.out bv w1 hH1.out hV1.out).mono ?_
      rintro e w2 ⟨rfl, hb2, _⟩
      have hT2 := hH1.out.below (hb2.under (Nat.le_of_lt hbvz))
      have t4 := hT2.c4
      have t5 := hT2.c5
      have tn := hT2.nums s hsn
      rw [HN.out] at tn
      clear hT2
      go_wp2
      go_ret
      refine ⟨ret_bool ?_, hb1.trans ((hb2.mono hb1.size).below (by rw [HBV.out]; exact Nat.le_refl _))⟩
      rw [HFIN.out]
      simp [hle]
    · have hle' : decide (1000000 + v ≤ N) = false := by simpa using hle
      go_enter Try.func66, Try.ntmps66
      go_wp2_with fail
      refine HF.out.mono ?_
      rintro e w1 ⟨bv, rfl, hbv, hb1, hv1⟩
      have HBV := Lib.hid hbv
      have hT1 := (HT.out.below (hb1.mono hn)).mono (m := bv) (by rw [hbv]; exact hn)
      have hbvz := hv1.lt
      have hH1 := Lib.hid hT1
      have hV1 := Lib.hid hv1
      clear hbv hT1 hv1
      go_wp2_with fail
      refine (HVAL.out bv w1 hH1.out hV1.out).mono ?_
      rintro e w2 ⟨rfl, hb2, _⟩
      have hT2 := hH1.out.below (hb2.under (Nat.le_of_lt hbvz))
      have t4 := hT2.c4
      have t5 := hT2.c5
      have tn := hT2.nums s hsn
      rw [HN.out] at tn
      clear hT2
      go_wp2
      go_ret
      refine ⟨ret_bool ?_, hb1.trans ((hb2.mono hb1.size).below (by rw [HBV.out]; exact Nat.le_refl _))⟩
      rw [HFIN.out]
      by_cases hN0 : N = 2000000000
      · simp [hN0]
      · have h1 : (N == 2000000000) = false := by simpa using hN0
        rw [h1]
        simp [hN0]
        omega

end Go.Proofs.Ytnaehbgmfajdjaa
