/- within of packages throw and aim; isBed of package throw. -/
import Derived.Test.YtnaehbgmfajdjaaIdx
import Derived.Test.YtnaehbgmfajdjaaRange
import Derived.Shelf.Abstract
namespace Go.Proofs.Ytnaehbgmfajdjaa
open Go.RowKit AimP

/-- A bed that is no miss. -/
def isBedB (b : Int) : Bool := decide ((1 ≤ b / 100 ∧ b / 100 ≤ 4 ∧ 1 ≤ b % 100 ∧ b % 100 ≤ 20) ∨ b = 125 ∨ b = 225)

set_option maxRecDepth 100000 in
set_option maxHeartbeats 1000000 in
theorem within1_throw (x lo hi : Int) (c1 c2 : Nat) (w : World) (r : Bool) (h1 : w.cell? ⟨c1, 0, none⟩ = some (.int .i64 lo)) (h2 : w.cell? ⟨c2, 0, none⟩ = some (.int .i64 hi)) (hr : r = decide (x < lo ∨ hi < x)) :
    Calls Try.prog 165 #[.int .i64 x, .pointer (some ⟨c1, 0, none⟩), .pointer (some ⟨c2, 0, none⟩)] w fun e w' => e = .returned (.bool r) ∧ w = w' := by
  have HR := Lib.hid hr
  clear hr
  by_cases hlo : x < lo
  · go_enter Try.func165, Try.ntmps165
    go_wp2
    go_ret
    exact ⟨ret_bool (by rw [HR.out]; simp; omega), rfl⟩
  · by_cases hhi : hi < x
    · go_enter Try.func165, Try.ntmps165
      go_wp2
      go_ret
      exact ⟨ret_bool (by rw [HR.out]; simp; omega), rfl⟩
    · go_enter Try.func165, Try.ntmps165
      go_wp2
      go_ret
      exact ⟨ret_bool (by rw [HR.out]; simp; omega), rfl⟩

set_option maxRecDepth 100000 in
set_option maxHeartbeats 1000000 in
theorem within_throw (lo hi : Int) (b off n cp : Nat) (x : Nat → Int) (w : World) (r : Bool) (hb : b < w.heap.size) (hn : (n : Int) ≤ 1000000)
    (hc : ∀ i, i < n → w.cell? ⟨b, off + i, none⟩ = some (.int .i64 (x i))) (hr : r = true ↔ ∀ i, i < n → lo ≤ x i ∧ x i ≤ hi) :
    Calls Try.prog 132 #[.int .i64 lo, .int .i64 hi, .slice (some ⟨b, off, none⟩) n cp] w fun e w' => e = .returned (.bool r) ∧ Below w.heap.size w w' := by
  have hcall := fun (W : World) (hB : Below w.heap.size w W) (a1 : W.cell? ⟨w.heap.size, 0, none⟩ = some (.int .i64 lo)) (a2 : W.cell? ⟨w.heap.size + 1, 0, none⟩ = some (.int .i64 hi)) =>
    contains_int b off n cp (fun i => .int .i64 (x i)) 165 #[.pointer (some ⟨w.heap.size, 0, none⟩), .pointer (some ⟨w.heap.size + 1, 0, none⟩)] (fun i => decide (x i < lo ∨ hi < x i)) (fun W' => W' = W) W (!r)
      (enters_of Try.func165 (by kernel_rfl) rfl) hn (fun i W' hi hW => by rw [hW, hB.cell (p := ⟨b, _, none⟩) hb]; exact hc i hi)
      (fun i W' hi hW => (within1_throw (x i) _ _ _ _ W' _ (by rw [hW]; exact a1) (by rw [hW]; exact a2) rfl).mono fun e w3 h => ⟨h.1, by rw [← h.2]; exact hW⟩) rfl (by
        constructor
        · intro h
          have hrf : ¬ (r = true) := by cases r <;> simp_all
          rw [hr] at hrf
          apply Classical.byContradiction
          intro hno
          exact hrf fun i hi => Classical.byContradiction fun hh => hno ⟨i, hi, by simp; omega⟩
        · rintro ⟨i, hi, hi2⟩
          cases hrr : r with
          | false => rfl
          | true => have := hr.1 hrr i hi; simp at hi2; omega)
  have HC := Lib.hid hcall
  clear hcall hc hr
  go_enter Try.func132, Try.ntmps132
  go_wp2_with fail
  have hB : Below w.heap.size w ((w.alloc (Obj.cells #[Value.int IntKind.i64 lo] 3)).alloc (Obj.cells #[Value.int IntKind.i64 hi] 3)) := ((Below.refl _ _).alloc (Nat.le_refl _) _).alloc (by simp) _
  refine (HC.out _ hB (by rw [cell_old _ _ _ (by simp), cell_new _ _ _ _ _ _ rfl]; rfl) (by rw [cell_new _ _ _ _ _ _ (by simp)]; rfl)).mono ?_
  rintro e w2 ⟨rfl, rfl⟩
  go_wp2
  go_ret
  exact ⟨ret_bool (by cases r <;> rfl), hB⟩

set_option maxRecDepth 100000 in
set_option maxHeartbeats 1000000 in
theorem within1_aim (x lo hi : Int) (c1 c2 : Nat) (w : World) (r : Bool) (h1 : w.cell? ⟨c1, 0, none⟩ = some (.int .i64 lo)) (h2 : w.cell? ⟨c2, 0, none⟩ = some (.int .i64 hi)) (hr : r = decide (x < lo ∨ hi < x)) :
    Calls Try.prog 100 #[.int .i64 x, .pointer (some ⟨c1, 0, none⟩), .pointer (some ⟨c2, 0, none⟩)] w fun e w' => e = .returned (.bool r) ∧ w = w' := by
  have HR := Lib.hid hr
  clear hr
  by_cases hlo : x < lo
  · go_enter Try.func100, Try.ntmps100
    go_wp2
    go_ret
    exact ⟨ret_bool (by rw [HR.out]; simp; omega), rfl⟩
  · by_cases hhi : hi < x
    · go_enter Try.func100, Try.ntmps100
      go_wp2
      go_ret
      exact ⟨ret_bool (by rw [HR.out]; simp; omega), rfl⟩
    · go_enter Try.func100, Try.ntmps100
      go_wp2
      go_ret
      exact ⟨ret_bool (by rw [HR.out]; simp; omega), rfl⟩

set_option maxRecDepth 100000 in
set_option maxHeartbeats 1000000 in
theorem within_aim (lo hi : Int) (b off n cp : Nat) (x : Nat → Int) (w : World) (r : Bool) (hb : b < w.heap.size) (hn : (n : Int) ≤ 1000000)
    (hc : ∀ i, i < n → w.cell? ⟨b, off + i, none⟩ = some (.int .i64 (x i))) (hr : r = true ↔ ∀ i, i < n → lo ≤ x i ∧ x i ≤ hi) :
    Calls Try.prog 61 #[.int .i64 lo, .int .i64 hi, .slice (some ⟨b, off, none⟩) n cp] w fun e w' => e = .returned (.bool r) ∧ Below w.heap.size w w' := by
  have hcall := fun (W : World) (hB : Below w.heap.size w W) (a1 : W.cell? ⟨w.heap.size, 0, none⟩ = some (.int .i64 lo)) (a2 : W.cell? ⟨w.heap.size + 1, 0, none⟩ = some (.int .i64 hi)) =>
    contains_int b off n cp (fun i => .int .i64 (x i)) 100 #[.pointer (some ⟨w.heap.size, 0, none⟩), .pointer (some ⟨w.heap.size + 1, 0, none⟩)] (fun i => decide (x i < lo ∨ hi < x i)) (fun W' => W' = W) W (!r)
      (enters_of Try.func100 (by kernel_rfl) rfl) hn (fun i W' hi hW => by rw [hW, hB.cell (p := ⟨b, _, none⟩) hb]; exact hc i hi)
      (fun i W' hi hW => (within1_aim (x i) _ _ _ _ W' _ (by rw [hW]; exact a1) (by rw [hW]; exact a2) rfl).mono fun e w3 h => ⟨h.1, by rw [← h.2]; exact hW⟩) rfl (by
        constructor
        · intro h
          have hrf : ¬ (r = true) := by cases r <;> simp_all
          rw [hr] at hrf
          apply Classical.byContradiction
          intro hno
          exact hrf fun i hi => Classical.byContradiction fun hh => hno ⟨i, hi, by simp; omega⟩
        · rintro ⟨i, hi, hi2⟩
          cases hrr : r with
          | false => rfl
          | true => have := hr.1 hrr i hi; simp at hi2; omega)
  have HC := Lib.hid hcall
  clear hcall hc hr
  go_enter Try.func61, Try.ntmps61
  go_wp2_with fail
  have hB : Below w.heap.size w ((w.alloc (Obj.cells #[Value.int IntKind.i64 lo] 3)).alloc (Obj.cells #[Value.int IntKind.i64 hi] 3)) := ((Below.refl _ _).alloc (Nat.le_refl _) _).alloc (by simp) _
  refine (HC.out _ hB (by rw [cell_old _ _ _ (by simp), cell_new _ _ _ _ _ _ rfl]; rfl) (by rw [cell_new _ _ _ _ _ _ (by simp)]; rfl)).mono ?_
  rintro e w2 ⟨rfl, rfl⟩
  go_wp2
  go_ret
  exact ⟨ret_bool (by cases r <;> rfl), hB⟩

set_option maxRecDepth 100000 in
set_option maxHeartbeats 1000000 in
theorem isBed_any (b : Int) (w : World) (r : Bool) (h0 : 0 ≤ b) (h1 : b ≤ 1000) (hr : r = isBedB b) :
    Calls Try.prog 155 #[.int .i64 b] w fun e w' => e = .returned (.bool r) ∧ Below w.heap.size w w' := by
  have hw := fun (lo hi v : Int) (W : World) (bb : Nat) (q : Bool) (hbb : bb < W.heap.size) (hc : W.cell? ⟨bb, 0, none⟩ = some (.int .i64 v)) (hq : q = decide (lo ≤ v ∧ v ≤ hi)) =>
    within_throw lo hi bb 0 1 1 (fun _ => v) W q hbb (by decide) (fun i hi => by rw [show i = 0 by omega]; exact hc) (by
      rw [hq, decide_eq_true_iff]; exact ⟨fun h _ _ => h, fun h => h 0 (by decide)⟩)
  have HW := Lib.hid hw
  have HR := Lib.hid hr
  clear hw hr
  obtain ⟨f, hf⟩ : ∃ f, b / 100 = f := ⟨_, rfl⟩
  obtain ⟨m, hm⟩ : ∃ m, b % 100 = m := ⟨_, rfl⟩
  obtain ⟨q1, hq1⟩ : ∃ q1, q1 = decide (1 ≤ b / 100 ∧ b / 100 ≤ 4) := ⟨_, rfl⟩
  obtain ⟨q2, hq2⟩ : ∃ q2, q2 = decide (1 ≤ b % 100 ∧ b % 100 ≤ 20) := ⟨_, rfl⟩
  have hrr : r = (q1 && q2 || decide (b = 125) || decide (b = 225)) := by
    rw [HR.out, isBedB, hq1, hq2]
    rw [Bool.eq_iff_iff]
    simp only [decide_eq_true_eq, Bool.or_eq_true, Bool.and_eq_true]
    omega
  have HRR := Lib.hid hrr
  have HQ1 := Lib.hid hq1
  have HQ2 := Lib.hid hq2
  clear hrr hq1 hq2 HR hf hm
  go_enter Try.func155, Try.ntmps155
  go_wp2_with fail
  obtain ⟨wa, hwa⟩ : ∃ wa, w.alloc (Obj.cells #[Value.int IntKind.i64 (b / 100)] 3) = wa := ⟨_, rfl⟩
  have hba : Below w.heap.size w wa := by rw [← hwa]; exact (Below.refl _ _).alloc (Nat.le_refl _) _
  rw [hwa]
  refine (HW.out 1 4 (b / 100) wa w.heap.size q1 (by rw [← hwa]; simp) (by rw [← hwa, cell_new _ _ _ _ _ _ rfl]; rfl) HQ1.out).mono ?_
  rintro e w1 ⟨rfl, hb1⟩
  have HB1 := Lib.hid (hba.trans (hb1.mono hba.size))
  clear hba hb1 hwa
  have fin : ∀ (b : Bool) (w2 : World), b = r → Below w.heap.size w w2 → Ending.returned (Value.bool b) = Ending.returned (.bool r) ∧ Below w.heap.size w w2 := fun b w2 h1 h2 => ⟨ret_bool h1, h2⟩
  have HFIN := Lib.hid fin
  clear fin
  cases q1 with
  | true =>
    go_wp2_with fail
    obtain ⟨wc, hwc⟩ : ∃ wc, w1.alloc (Obj.cells #[Value.int IntKind.i64 (b % 100)] 3) = wc := ⟨_, rfl⟩
    have hbc : Below w1.heap.size w1 wc := by rw [← hwc]; exact (Below.refl _ _).alloc (Nat.le_refl _) _
    rw [hwc]
    refine (HW.out 1 20 (b % 100) wc w1.heap.size q2 (by rw [← hwc]; simp) (by rw [← hwc, cell_new _ _ _ _ _ _ rfl]; rfl) HQ2.out).mono ?_
    rintro e w2 ⟨rfl, hb2⟩
    have HB2 := Lib.hid (HB1.out.trans ((hbc.trans (hb2.mono hbc.size)).mono HB1.out.size))
    clear hbc hb2 hwc
    cases q2 with
    | true =>
      go_wp2
      go_ret
      exact HFIN.out _ _ (by rw [HRR.out]; simp) HB2.out
    | false =>
      by_cases e1 : b = 125
      · subst e1
        go_wp2
        go_ret
        exact HFIN.out _ _ (by rw [HRR.out]; simp) HB2.out
      · have e1' : (b == 125) = false := by simpa using e1
        go_wp2
        go_ret
        exact HFIN.out _ _ (by rw [HRR.out]; simp [e1]; exact Bool.eq_iff_iff.2 (by simp)) HB2.out
  | false =>
    have n1 : b ≠ 125 := by
      rintro rfl
      have := HQ1.out
      simp at this
    have e1' : (b == 125) = false := by simpa using n1
    go_wp2
    go_ret
    exact HFIN.out _ _ (by rw [HRR.out]; simp [n1]; exact Bool.eq_iff_iff.2 (by simp)) HB1.out

end Go.Proofs.Ytnaehbgmfajdjaa
