/- slices.Min and slices.Index at integers; Aim of package aim at valid positions. -/
import Derived.Test.YtnaehbgmfajdjaaAt
namespace Go.Proofs.Ytnaehbgmfajdjaa
open Go.RowKit AimP

/-- The least of x 0 .. x k. -/
def minTo (x : Nat → Int) : Nat → Int
  | 0 => x 0
  | k + 1 => min (minTo x k) (x (k + 1))

set_option maxRecDepth 100000 in
set_option maxHeartbeats 1000000 in
theorem min_any (b off n cp : Nat) (x : Nat → Int) (w : World) (hn : (n : Int) + 1 ≤ 1000000) (hc : ∀ i, i < n + 1 → w.cell? ⟨b, off + i, none⟩ = some (.int .i64 (x i))) :
    Calls Try.prog 54 #[.slice (some ⟨b, off, none⟩) (n + 1) cp] w fun e w' => e = .returned (.int .i64 (minTo x n)) ∧ w' = w := by
  have HCC := Lib.hid hc
  have h0 := hc 0 (by omega)
  rw [Nat.add_zero] at h0
  obtain ⟨M, hM⟩ : ∃ M, minTo x = M := ⟨_, rfl⟩
  have hM0 : M 0 = x 0 := by rw [← hM]; rfl
  have hMs : ∀ k, M (k + 1) = min (M k) (x (k + 1)) := by intro k; rw [← hM]; rfl
  rw [hM]
  have HM0 := Lib.hid hM0
  have HMS := Lib.hid hMs
  clear hc hM hM0 hMs
  have hn1 : ¬ ((n : Int) + 1 < 1) := by omega
  have hn2 : (0 : Int) < (n : Int) + 1 := by omega
  go_enter Try.func54, Try.ntmps54
  go_wp2
  go_loopw [3, 4] (fun vm vi wr => ∃ i : Nat, vi = .int .i64 ((i : Int) + 1) ∧ i ≤ n ∧ vm = .int .i64 (M i) ∧ wr = w) (fun _ vi _ => n + 1 - (intOf vi).toNat)
  case atStart => exact ⟨0, rfl, Nat.zero_le _, by rw [HM0.out], rfl⟩
  case round =>
    obtain ⟨i, rfl, hin, rfl, rfl⟩ := hrel
    by_cases hlt : i < n
    · have hcx := HCC.out (i + 1) (by omega)
      have hms := HMS.out i
      obtain ⟨mi, hmi⟩ : ∃ mi, M i = mi := ⟨_, rfl⟩
      obtain ⟨xi, hxi⟩ : ∃ xi, x (i + 1) = xi := ⟨_, rfl⟩
      rw [hxi] at hcx hms
      rw [hmi] at hms ⊢
      have HS := Lib.hid hms
      have hl2 : (i : Int) + 1 < (n : Int) + 1 := by omega
      clear hms hmi hxi h0
      go_wp2
      go_roundw
      case rel => exact ⟨i + 1, by go_num, by omega, by rw [HS.out], trivial⟩
      case measure => simp [intOf]; omega
    · obtain rfl : i = n := by omega
      go_wp2
      go_ret
      exact ⟨rfl, rfl⟩

set_option maxRecDepth 100000 in
set_option maxHeartbeats 1000000 in
theorem indexOf_any (b off n cp : Nat) (x : Nat → Int) (v : Int) (w : World) (hn : (n : Int) ≤ 1000000) (hc : ∀ i, i < n → w.cell? ⟨b, off + i, none⟩ = some (.int .i64 (x i))) (hex : ∃ i, i < n ∧ x i = v) :
    Calls Try.prog 55 #[.slice (some ⟨b, off, none⟩) n cp, .int .i64 v] w fun e w' => (∃ j : Nat, e = .returned (.int .i64 (j : Int)) ∧ j < n ∧ x j = v ∧ ∀ i, i < j → x i ≠ v) ∧ w' = w := by
  have HCC := Lib.hid hc
  have HEX := Lib.hid hex
  clear hc hex
  go_enter Try.func55, Try.ntmps55
  go_wp2
  go_loopw [8] (fun vi wr => ∃ i : Nat, vi = .int .i64 i ∧ i ≤ n ∧ Hid (∀ k, k < i → x k ≠ v) ∧ wr = w) (fun vi _ => n - (intOf vi).toNat)
  case atStart => exact ⟨0, rfl, Nat.zero_le _, fun k hk => absurd hk (Nat.not_lt_zero _), rfl⟩
  case round =>
    obtain ⟨i, rfl, hin, hP, rfl⟩ := hrel
    by_cases hlt : i < n
    · have hcx := HCC.out i hlt
      obtain ⟨xi, hxi⟩ : ∃ xi, x i = xi := ⟨_, rfl⟩
      rw [hxi] at hcx
      have HXI := Lib.hid hxi
      clear hxi
      by_cases he : v = xi
      · subst he
        go_wp2
        go_ret
        exact ⟨⟨i, rfl, hlt, HXI.out, hP.out⟩, rfl⟩
      · have he' : (v == xi) = false := by simpa using he
        go_wp2
        go_roundw
        case rel =>
          refine ⟨i + 1, by go_num, hlt, fun k hk => ?_, trivial⟩
          by_cases hki : k = i
          · rw [hki, HXI.out]; exact fun h => he h.symm
          · exact hP.out k (by omega)
        case measure => simp [intOf]; omega
    · obtain rfl : i = n := by omega
      obtain ⟨k, hk, hk2⟩ := HEX.out
      exact absurd hk2 (hP.out k hk)

/-- The listed aim: the first one with the least worst mean. -/
def listed (r : Rules) (s left d : Nat) : Int → Int → Prop := fun a m =>
  ∃ j : Nat, a = j ∧ j < r.aims.length ∧ ((meansAt r false s left d)[j]?).getD 0 = m ∧ (∀ i, i < r.aims.length → m ≤ ((meansAt r false s left d)[i]?).getD 0) ∧ ∀ i, i < j → ((meansAt r false s left d)[i]?).getD 0 ≠ m

theorem minTo_le (x : Nat → Int) : ∀ k i, i ≤ k → minTo x k ≤ x i
  | 0, i, h => by rw [show i = 0 by omega]; exact Int.le_refl _
  | k + 1, i, h => by
    rw [minTo]
    by_cases hi : i = k + 1
    · rw [hi]; exact Int.min_le_right _ _
    · exact Int.le_trans (Int.min_le_left _ _) (minTo_le x k i (by omega))
theorem minTo_mem (x : Nat → Int) : ∀ k, ∃ i, i ≤ k ∧ x i = minTo x k
  | 0 => ⟨0, Nat.le_refl _, rfl⟩
  | k + 1 => by
    obtain ⟨i, hi, he⟩ := minTo_mem x k
    rw [minTo]
    by_cases h : minTo x k ≤ x (k + 1)
    · exact ⟨i, by omega, by rw [he]; omega⟩
    · exact ⟨k + 1, Nat.le_refl _, by omega⟩

theorem first_of (x : Nat → Int) (m : Int) : ∀ i, x i = m → ∃ j, j ≤ i ∧ x j = m ∧ ∀ k, k < j → x k ≠ m
  | 0, h => ⟨0, Nat.le_refl _, h, fun k hk => absurd hk (Nat.not_lt_zero _)⟩
  | i + 1, h => by
    by_cases hex : ∃ k, k ≤ i ∧ x k = m
    · obtain ⟨k, hk, hk2⟩ := hex
      obtain ⟨j, hj, h1, h2⟩ := first_of x m k hk2
      exact ⟨j, by omega, h1, h2⟩
    · exact ⟨i + 1, Nat.le_refl _, h, fun k hk he => hex ⟨k, by omega, he⟩⟩
  termination_by i => i
  decreasing_by omega

set_option maxRecDepth 100000 in
set_option maxHeartbeats 1000000 in
theorem aim_any (r : Rules) (ba oa ca s left d : Nat) (w : World) (hr : RulesOk r) (hf : LawFull r.den r.aims) (hA : AimsAt w.heap.size w ba oa r.aims) (hp : PosOk r s left d) :
    Calls Try.prog 16 #[rulesV r ba oa ca, posV s left d] w fun e w' => (∃ a m : Int, listed r s left d a m ∧ ((m = never ∧ e = .returned (.tuple #[.int .i64 0, .int .i64 0, .int .i64 7])) ∨ (m ≠ never ∧ e = .returned (.tuple #[.int .i64 a, .int .i64 m, .int .i64 0])))) ∧ Below w.heap.size w w' := by
  have h1 := fun W (hW : Below w.heap.size w W) => open_any r ba oa ca s left d W hr hf ((hA.below hW).mono hW.size) hp
  have h2 := fun W (hW : Below w.heap.size w W) => at_any r false ba oa ca s left d W hr ((hA.below hW).mono hW.size) hp
  have hl1 := hr.len1
  have hl := hr.len
  obtain ⟨n, hn⟩ : ∃ n, r.aims.length = n + 1 := ⟨r.aims.length - 1, by omega⟩
  obtain ⟨x, hx⟩ : ∃ x : Nat → Int, (fun i => ((meansAt r false s left d)[i]?).getD 0) = x := ⟨_, rfl⟩
  have hx' : ∀ i, ((meansAt r false s left d)[i]?).getD 0 = x i := fun i => by rw [← hx]
  simp only [hx'] at h2
  have hfin : ∀ j : Nat, j < n + 1 → x j = minTo x n → (∀ i, i < j → x i ≠ minTo x n) → listed r s left d j (minTo x n) := by
    intro j hj h1 h2
    refine ⟨j, rfl, by omega, (hx' j).trans h1, fun i hi => by rw [hx']; exact minTo_le x n i (by omega), fun i hi => by rw [hx']; exact h2 i hi⟩
  unfold rulesV posV at *
  rw [hn] at h2 h1 ⊢
  obtain ⟨den, hden⟩ : ∃ den, r.den = den := ⟨_, rfl⟩
  obtain ⟨out, hout⟩ : ∃ out, r.out = out := ⟨_, rfl⟩
  rw [hden, hout] at h1 h2 ⊢
  have H1 := Lib.hid h1
  have H2 := Lib.hid h2
  have HFIN := Lib.hid hfin
  clear h1 h2 hfin hr hf hA hp hden hout hx hx' hl1
  go_enter Try.func16, Try.ntmps16
  go_wp2_with fail
  obtain ⟨wa, hwa⟩ : ∃ wa, (w.alloc (Obj.cells #[Value.int IntKind.i64 den, Value.slice (some ⟨ba, oa, none⟩) (n + 1) ca, Value.int .i64 (r.start : Int), Value.int .i64 out] 31)).alloc (Obj.cells #[.int .i64 (s : Int), .int .i64 (left : Int), .int .i64 (d : Int)] 45) = wa := ⟨_, rfl⟩
  have hB : Below w.heap.size w wa := by rw [← hwa]; exact ((Below.refl _ _).alloc (Nat.le_refl _) _).alloc (by simp) _
  have za : w.heap.size + 1 < wa.heap.size := by rw [← hwa]; simp
  have za0 : w.heap.size < wa.heap.size := by omega
  have a0 : wa.cell? ⟨w.heap.size, 0, none⟩ = some (.int .i64 den) := by rw [← hwa, cell_old _ _ _ (by simp), cell_new _ _ _ _ _ _ rfl]; rfl
  have a1 : wa.cell? ⟨w.heap.size, 1, none⟩ = some (.slice (some ⟨ba, oa, none⟩) (n + 1) ca) := by rw [← hwa, cell_old _ _ _ (by simp), cell_new _ _ _ _ _ _ rfl]; rfl
  have a2 : wa.cell? ⟨w.heap.size, 2, none⟩ = some (.int .i64 (r.start : Int)) := by rw [← hwa, cell_old _ _ _ (by simp), cell_new _ _ _ _ _ _ rfl]; rfl
  have a3 : wa.cell? ⟨w.heap.size, 3, none⟩ = some (.int .i64 out) := by rw [← hwa, cell_old _ _ _ (by simp), cell_new _ _ _ _ _ _ rfl]; rfl
  have p0 : wa.cell? ⟨w.heap.size + 1, 0, none⟩ = some (.int .i64 (s : Int)) := by rw [← hwa, cell_new _ _ _ _ _ _ (by simp)]; rfl
  have p1 : wa.cell? ⟨w.heap.size + 1, 1, none⟩ = some (.int .i64 (left : Int)) := by rw [← hwa, cell_new _ _ _ _ _ _ (by simp)]; rfl
  have p2 : wa.cell? ⟨w.heap.size + 1, 2, none⟩ = some (.int .i64 (d : Int)) := by rw [← hwa, cell_new _ _ _ _ _ _ (by simp)]; rfl
  rw [hwa]
  refine (H1.out wa hB).mono ?_
  rintro e w1 ⟨rfl, hb1⟩
  have b0 := (hb1.cell (p := ⟨w.heap.size, 0, none⟩) za0).trans a0
  have b1 := (hb1.cell (p := ⟨w.heap.size, 1, none⟩) za0).trans a1
  have b2 := (hb1.cell (p := ⟨w.heap.size, 2, none⟩) za0).trans a2
  have b3 := (hb1.cell (p := ⟨w.heap.size, 3, none⟩) za0).trans a3
  have c0 := (hb1.cell (p := ⟨w.heap.size + 1, 0, none⟩) za).trans p0
  have c1 := (hb1.cell (p := ⟨w.heap.size + 1, 1, none⟩) za).trans p1
  have c2 := (hb1.cell (p := ⟨w.heap.size + 1, 2, none⟩) za).trans p2
  have HB1 := Lib.hid (hB.trans (hb1.mono hB.size))
  have z1 : w.heap.size ≤ w1.heap.size := HB1.out.size
  clear hwa hb1 a0 a1 a2 a3 p0 p1 p2 za za0 hB
  go_wp2_with fail
  refine (H2.out w1 HB1.out).mono ?_
  rintro e w2 ⟨g, cap, rfl, hb2, hg1, hg2, hcells⟩
  have HB2 := Lib.hid (HB1.out.trans (hb2.mono z1))
  have HCE := Lib.hid hcells
  clear hb2 b0 b1 b2 b3 c0 c1 c2 hcells
  have hmin := min_any g 0 n cap x w2 (by omega) (fun i hi => by rw [Nat.zero_add]; exact HCE.out i hi)
  obtain ⟨i0, hi0, hi0'⟩ := minTo_mem x n
  have hidx := indexOf_any g 0 (n + 1) cap x (minTo x n) w2 (by omega) (fun i hi => by rw [Nat.zero_add]; exact HCE.out i hi) ⟨i0, by omega, hi0'⟩
  have hfin := HFIN.out
  obtain ⟨m, hm⟩ : ∃ m, minTo x n = m := ⟨_, rfl⟩
  rw [hm] at hmin hidx hfin
  have HMIN := Lib.hid hmin
  have HIDX := Lib.hid hidx
  have HFI := Lib.hid hfin
  have HI0 : Hid (i0 ≤ n ∧ x i0 = m) := ⟨hi0, hi0'.trans hm⟩
  clear hmin hidx hfin hm hi0 hi0'
  go_wp2_with fail
  refine HMIN.out.mono ?_
  rintro e w3 ⟨rfl, rfl⟩
  by_cases hne : m = 2000000000
  · have hne' : (m == 2000000000) = true := by simpa using hne
    have HN := Lib.hid hne
    clear hne
    go_wp2
    go_ret3
    obtain ⟨j, hj, h1, h2⟩ := first_of x m i0 HI0.out.2
    exact ⟨⟨(j : Int), m, HFI.out j (by have := HI0.out.1; omega) h1 h2, Or.inl ⟨HN.out, rfl⟩⟩, HB2.out⟩
  · have hne' : (m == 2000000000) = false := by simpa using hne
    have HN := Lib.hid hne
    clear hne
    go_wp2_with fail
    refine HIDX.out.mono ?_
    rintro e w4 ⟨⟨j, rfl, hj, hj1, hj2⟩, rfl⟩
    have HJ1 := Lib.hid hj1
    have HJ2 := Lib.hid hj2
    clear hj1 hj2
    go_wp2
    go_ret3
    exact ⟨⟨(j : Int), m, HFI.out j hj HJ1.out HJ2.out, Or.inr ⟨HN.out, rfl⟩⟩, HB2.out⟩

end Go.Proofs.Ytnaehbgmfajdjaa
