/- (visit).next of package aim: the value after a dart in a bed. -/
import Derived.Test.YtnaehbgmfajdjaaAimA
namespace Go.Proofs.Ytnaehbgmfajdjaa
open Go.RowKit AimP

/-- What a call of (visit).value does, with d darts to be thrown. -/
def ValOk (bv bt s : Nat) (r : Rules) (best : Bool) (ba oa ca bn cn : Nat) (num : List Int) (V : Nat → Int → Int) (d : Nat) : Prop :=
  ∀ (x : Nat) (W : World), lowest r.out ≤ (x : Int) → x ≤ s → TabAt bv W bt r best ba oa ca bn cn num → VisAt W bv bt s V →
    Calls Try.prog 102 #[.pointer (some ⟨bv, 0, none⟩), .int .i64 (x : Int), .int .i64 (d : Int)] W fun e w' => e = .returned (.int .i64 (V d x)) ∧ But bv W.heap.size W w' ∧ VisAt w' bv bt s V

theorem score_bd {b : Int} (h0 : 0 ≤ b) (h1 : b ≤ 425) : 0 ≤ score b ∧ score b ≤ 396 := by
  have hq : 0 ≤ b / 100 ∧ b / 100 ≤ 4 := by omega
  have hm : 0 ≤ b % 100 ∧ b % 100 ≤ 99 := by omega
  refine ⟨Int.mul_nonneg hq.1 hm.1, ?_⟩
  have := Int.mul_le_mul hq.2 hm.2 hm.1 (by omega)
  unfold score
  omega

set_option maxRecDepth 100000 in
set_option maxHeartbeats 1000000 in
theorem next_any (bv bt s : Nat) (r : Rules) (best : Bool) (ba oa ca bn cn : Nat) (num : List Int) (V : Nat → Int → Int) (d left : Nat) (b q : Int) (w : World)
    (hd : d ≤ 2) (hleft : left ≤ s) (hs60 : s ≤ 60) (hsn : s < num.length) (hb0 : 0 ≤ b) (hb1 : b ≤ 425) (hV : ValOk bv bt s r best ba oa ca bn cn num V d)
    (hT : TabAt bv w bt r best ba oa ca bn cn num) (hI : VisAt w bv bt s V) (hq : q = nextV r.out num s (V d) left b) :
    Calls Try.prog 170 #[.pointer (some ⟨bv, 0, none⟩), .int .i64 (left : Int), .int .i64 ((d : Int) + 1), .int .i64 b] w
      fun e w' => e = .returned (.int .i64 q) ∧ But bv w.heap.size w w' ∧ VisAt w' bv bt s V := by
  have HT := Lib.hid hT
  have HI := Lib.hid hI
  have HV := Lib.hid hV
  have HQ := Lib.hid hq
  have t2 := hT.c2
  have t3 := hT.c3
  have t5 := hT.c5
  have tn := hT.nums s hsn
  have i0 := hI.c0
  have i1 := hI.c1
  obtain ⟨sc, hsc⟩ : ∃ sc, sc = score b := ⟨_, rfl⟩
  have hsb : 0 ≤ sc ∧ sc ≤ 396 := by rw [hsc]; exact score_bd hb0 hb1
  have hscore := fun W => score_any b sc W hb0 hb1 hsc
  obtain ⟨lo, hlo⟩ : ∃ lo, lo = lowest r.out := ⟨_, rfl⟩
  have hlb : 1 ≤ lo ∧ lo ≤ 2 := by rw [hlo]; unfold lowest; split <;> omega
  have hlow := fun W => lowest_any r.out lo W hlo
  obtain ⟨op, hop⟩ : ∃ op, op = opens b r.out := ⟨_, rfl⟩
  have hopen := fun W => opens_any b r.out op W hb0 hb1 hop
  have HSC := Lib.hid hsc
  have HLO := Lib.hid hlo
  have HOP := Lib.hid hop
  have HS := Lib.hid hscore
  have HL := Lib.hid hlow
  have HO := Lib.hid hopen
  obtain ⟨N, hN⟩ : ∃ N, numOf num s = N := ⟨_, rfl⟩
  rw [hN] at tn
  have HN := Lib.hid hN
  have hsl : (s : Int) < (num.length : Int) := by omega
  clear hT hI hV hq hsc hlo hop hscore hlow hopen hN
  by_cases hlt : (left : Int) - sc < lo
  · by_cases hz : (left : Int) - sc = 0
    · have hz' : ((left : Int) - sc == 0) = true := by simpa using hz
      have HZ := Lib.hid hz
      clear hz
      cases hoo : op with
      | true =>
        rw [hoo] at HO HOP
        have hfin : q = 0 := by rw [HQ.out]; unfold nextV; rw [← HSC.out, ← HOP.out, if_pos ⟨HZ.out, rfl⟩]
        have HF := Lib.hid hfin
        clear hfin hoo
        go_enter Try.func170, Try.ntmps170
        go_wp2_with fail
        refine (HS.out _).mono ?_
        rintro e w' ⟨rfl, rfl⟩
        go_wp2_with fail
        refine (HO.out _).mono ?_
        rintro e w' ⟨rfl, rfl⟩
        go_wp2
        go_ret
        exact ⟨ret_int HF.out.symm, But.refl _ _ _, HI.out⟩
      | false =>
        rw [hoo] at HO HOP
        have hfin : q = N := by rw [HQ.out]; unfold nextV; rw [← HSC.out, ← HOP.out, ← HLO.out, if_neg (by simp), if_pos hlt]; exact HN.out
        have HF := Lib.hid hfin
        clear hfin hoo
        go_enter Try.func170, Try.ntmps170
        go_wp2_with fail
        refine (HS.out _).mono ?_
        rintro e w' ⟨rfl, rfl⟩
        go_wp2_with fail
        refine (HO.out _).mono ?_
        rintro e w' ⟨rfl, rfl⟩
        go_wp2_with fail
        refine (HL.out _).mono ?_
        rintro e w' ⟨rfl, rfl⟩
        go_wp2_with fail
        go_quiet (fail)
        go_wp2
        go_ret
        exact ⟨ret_int HF.out.symm, (But.refl _ _ _).drewN _, HI.out.same (Nat.le_refl _) rfl⟩
    · have hz' : ((left : Int) - sc == 0) = false := by simpa using hz
      have hfin : q = N := by rw [HQ.out]; unfold nextV; rw [← HSC.out, ← HLO.out, if_neg (fun h => hz h.1), if_pos hlt]; exact HN.out
      have HF := Lib.hid hfin
      clear hfin hz
      go_enter Try.func170, Try.ntmps170
      go_wp2_with fail
      refine (HS.out _).mono ?_
      rintro e w' ⟨rfl, rfl⟩
      go_wp2_with fail
      refine (HL.out _).mono ?_
      rintro e w' ⟨rfl, rfl⟩
      go_wp2_with fail
      go_quiet (fail)
      go_wp2
      go_ret
      exact ⟨ret_int HF.out.symm, (But.refl _ _ _).drewN _, HI.out.same (Nat.le_refl _) rfl⟩
  · obtain ⟨x, hx⟩ : ∃ x : Nat, (left : Int) - sc = x := ⟨((left : Int) - sc).toNat, by omega⟩
    have hz' : ((x : Int) == 0) = false := by rw [beq_eq_false_iff_ne]; omega
    have hfin : q = V d x := by rw [HQ.out]; unfold nextV; rw [← HSC.out, ← HLO.out, if_neg (fun h => by omega), if_neg hlt, hx]
    have HF := Lib.hid hfin
    have hxs : x ≤ s := by omega
    have hxl : lo ≤ (x : Int) := by omega
    have hnl : ¬ ((x : Int) < lo) := by omega
    clear hfin
    go_enter Try.func170, Try.ntmps170
    go_wp2_with fail
    refine (HS.out _).mono ?_
    rintro e w' ⟨rfl, rfl⟩
    go_wp2_with fail
    refine (HL.out _).mono ?_
    rintro e w' ⟨rfl, rfl⟩
    go_wp2_with fail
    refine (HV.out x _ (by rw [← HLO.out]; exact hxl) hxs HT.out HI.out).mono ?_
    rintro e w' ⟨rfl, hb, hi⟩
    go_wp2
    go_ret
    exact ⟨ret_int HF.out.symm, hb, hi⟩

end Go.Proofs.Ytnaehbgmfajdjaa
