/- The small functions of package aim: score, opens, lowest, can. -/
import Derived.Test.YtnaehbgmfajdjaaMem
namespace Go.Proofs.Ytnaehbgmfajdjaa
open Go.RowKit AimP

theorem score_any (b r : Int) (w : World) (h0 : 0 ≤ b) (h1 : b ≤ 425) (hr : r = score b) : Calls Try.prog 184 #[.int .i64 b] w fun e w' => e = .returned (.int .i64 r) ∧ w = w' := by
  have HR := Lib.hid hr
  clear hr
  have hq : 0 ≤ b / 100 ∧ b / 100 ≤ 4 := by omega
  have hm : 0 ≤ b % 100 ∧ b % 100 ≤ 99 := by omega
  have hp : 0 ≤ b / 100 * (b % 100) ∧ b / 100 * (b % 100) ≤ 396 := by
    refine ⟨Int.mul_nonneg hq.1 hm.1, ?_⟩
    have := Int.mul_le_mul hq.2 hm.2 hm.1 (by omega)
    omega
  go_enter Try.func184, Try.ntmps184
  go_wp2
  go_ret
  refine ⟨ret_int ?_, rfl⟩
  rw [HR.out]
  rfl

theorem lowest_any (g r : Int) (w : World) (hr : r = lowest g) : Calls Try.prog 60 #[.int .i64 g] w fun e w' => e = .returned (.int .i64 r) ∧ w = w' := by
  have HR := Lib.hid hr
  clear hr
  by_cases h : g = 0
  · have h' : (g == 0) = true := by simpa using h
    have H := Lib.hid h
    clear h
    go_enter Try.func60, Try.ntmps60
    go_wp2
    go_ret
    exact ⟨ret_int (by rw [HR.out, lowest, if_pos H.out]), rfl⟩
  · have h' : (g == 0) = false := by simpa using h
    have H := Lib.hid h
    clear h
    go_enter Try.func60, Try.ntmps60
    go_wp2
    go_ret
    exact ⟨ret_int (by rw [HR.out, lowest, if_neg H.out]), rfl⟩

theorem opens_any (b g : Int) (r : Bool) (w : World) (h0 : 0 ≤ b) (h1 : b ≤ 425) (hr : r = opens b g) : Calls Try.prog 185 #[.int .i64 b, .int .i64 g] w fun e w' => e = .returned (.bool r) ∧ w = w' := by
  have HR := Lib.hid hr
  clear hr
  have hq : 0 ≤ b / 100 ∧ b / 100 ≤ 4 := by omega
  by_cases k1 : g = 1
  · have h1 : (g == 1) = true := by simpa using k1
    have H := Lib.hid k1
    clear k1
    go_enter Try.func185, Try.ntmps185
    go_wp2
    go_ret
    exact ⟨ret_bool (by rw [HR.out, opens, if_pos H.out]), rfl⟩
  · have e1 : (g == 1) = false := by simpa using k1
    have H1 := Lib.hid k1
    clear k1
    by_cases k2 : g = 2
    · have e2 : (g == 2) = true := by simpa using k2
      have H := Lib.hid k2
      clear k2
      go_enter Try.func185, Try.ntmps185
      go_wp2
      go_ret
      exact ⟨ret_bool (by rw [HR.out, opens, if_neg H1.out, if_pos H.out]), rfl⟩
    · have e2 : (g == 2) = false := by simpa using k2
      have H := Lib.hid k2
      clear k2
      go_enter Try.func185, Try.ntmps185
      go_wp2
      go_ret
      exact ⟨ret_bool (by rw [HR.out, opens, if_neg H1.out, if_neg H.out]), rfl⟩

set_option maxHeartbeats 400000 in
theorem can_any (b off c : Nat) (l : List PBed) (i : Nat) (x : PBed) (den r : Int) (w : World) (hb : b < w.heap.size) (hl : l.length ≤ 10) (hi : l[i]? = some x) (hd0 : 0 ≤ den) (hd : den ≤ 3000) (hs : Small 3000 l) (hB : BedsAt w b off l)
    (hr : r = min (den - lowsEx l i l.length) x.high) :
    Calls Try.prog 186 #[.slice (some ⟨b, off, none⟩) l.length c, .int .i64 i, .int .i64 den] w fun e w' => e = .returned (.int .i64 r) ∧ Below w.heap.size w w' := by
  have hil : i < l.length := (List.getElem?_eq_some_iff.1 hi).1
  have HR := Lib.hid hr
  have HB := Lib.hid hB
  have HS := Lib.hid hs
  have HI := Lib.hid hi
  have hbd := lowsEx_bd l 3000 hs (by omega) i
  have HD := Lib.hid hbd
  clear hB hs hbd hr hi
  go_enter Try.func186, Try.ntmps186
  go_wp2
  go_loopw [2, 11] (fun d k wr => ∃ j : Nat, j ≤ l.length ∧ k = .int .i64 j ∧ d = .int .i64 (den - lowsEx l i j) ∧ Below w.heap.size w wr) (fun _ k _ => l.length - (intOf k).toNat)
  case atStart => exact ⟨0, by omega, rfl, by simp [lowsEx], Below.refl _ _⟩
  case round =>
    obtain ⟨j, hj, rfl, rfl, hb'⟩ := hrel
    have hbd := HD.out j
    by_cases hlt : j < l.length
    · obtain ⟨y, hy⟩ : ∃ y, l[j]? = some y := ⟨l[j], by simp [hlt]⟩
      obtain ⟨c0, c1, c2⟩ := HB.out.below hb' hb j y hy
      obtain ⟨x1, x2, x3⟩ := HS.out y (List.mem_of_getElem? hy)
      have hwr := hb'.size
      have HX := Lib.hid hy
      clear hy
      by_cases hji : j = i
      · subst hji
        have HE : Hid (lowsEx l j (j + 1) = lowsEx l j j) := by unfold Hid; simp [lowsEx]
        go_wp2
        go_roundw
        case rel => exact ⟨j + 1, by omega, by go_num, by rw [HE.out], (hb'.alloc (by omega) _)⟩
        case measure => simp [intOf]; omega
      · have hne : ¬ ((j : Int) = i) := by omega
        have hne' : ((j : Int) != i) = true := by simpa using hne
        have HE : Hid (lowsEx l i (j + 1) = lowsEx l i j + y.low) := by unfold Hid; simp [lowsEx, HX.out, hji]
        go_wp2
        go_roundw
        case rel => exact ⟨j + 1, by omega, by go_num, by rw [HE.out]; go_num, (hb'.alloc (by omega) _)⟩
        case measure => simp [intOf]; omega
    · obtain rfl : j = l.length := by omega
      obtain ⟨c0, c1, c2⟩ := HB.out.below hb' hb i x HI.out
      go_wp2
      all_goals
        go_ret
        refine ⟨ret_int ?_, hb'⟩
        rw [HR.out]
        omega
end Go.Proofs.Ytnaehbgmfajdjaa
