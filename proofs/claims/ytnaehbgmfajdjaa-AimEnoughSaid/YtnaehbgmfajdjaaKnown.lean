/- known of the statements' package: the document's examples. -/
import Derived.Test.YtnaehbgmfajdjaaDbl
import Derived.Test.YtnaehbgmfajdjaaAlike
import Derived.Deep.AppendLies
namespace Go.Proofs.Ytnaehbgmfajdjaa
open Go.RowKit AimP

theorem nevers_d3 : neversTo (doubleP 3) (nScores (doubleP 3)) = [3] := by decide +kernel
theorem listed_d2 {a m : Int} (h : listed (doubleP 2) 2 2 1 a m) : a = 0 ∧ m = 571429 := by
  obtain ⟨j, rfl, hj, hm, _, _⟩ := h
  have hj0 : j = 0 := by simp [doubleP] at hj; exact hj
  subst hj0
  have : meansAt (doubleP 2) false 2 2 1 = [571429] := means_d2
  rw [this] at hm
  exact ⟨rfl, by simpa using hm.symm⟩

/-- A table's two lists, told with their length. -/
def TabV (tu tl : List Int) (n : Nat) (w : World) (e : Ending) (w' : World) : Prop := ∃ bu bl, e = .returned (.tuple #[.slice (some ⟨bu, 0, none⟩) n n, .slice (some ⟨bl, 0, none⟩) n n, .int .i64 0]) ∧ Below w.heap.size w w' ∧ bu < w'.heap.size ∧ bl < w'.heap.size ∧ (∀ i, i < n → w'.cell? ⟨bu, 0 + i, none⟩ = some (.int .i64 (numOf tu i))) ∧ (∀ i, i < n → w'.cell? ⟨bl, 0 + i, none⟩ = some (.int .i64 (numOf tl i)))

theorem table_told (r : Rules) (ba ca : Nat) (w : World) (hr : RulesOk r) (hf : LawFull r.den r.aims) (hA : AimsAt w.heap.size w ba 0 r.aims) (tu tl : List Int) (n : Nat) (h1 : table r false = tu) (h2 : table r true = tl) (hn : r.start + 1 = n) :
    Calls Try.prog 13 #[rulesV r ba 0 ca] w (TabV tu tl n w) := by
  subst h1 h2 hn
  refine (table_any r ba 0 ca w hr hf hA).mono ?_
  rintro e w' ⟨bu, bl, rfl, hb, _, _, h3, h4, h5, h6⟩
  exact ⟨bu, bl, rfl, hb, h3, h4, fun i hi => by rw [Nat.zero_add]; exact h5 i hi, fun i hi => by rw [Nat.zero_add]; exact h6 i hi⟩

theorem double_f (s : Nat) (w : World) : Calls Try.prog 57 #[.int .i64 s, .bool false] w fun e w' => ∃ b, e = .returned (rulesV (doubleP s) b 0 1) ∧ Below w.heap.size w w' ∧ AimsAt w'.heap.size w' b 0 (doubleP s).aims := by
  have := double_any s false w
  simpa only [Bool.false_eq_true, if_false] using this
theorem double_t (s : Nat) (w : World) : Calls Try.prog 57 #[.int .i64 s, .bool true] w fun e w' => ∃ b, e = .returned (rulesV (singleP s) b 0 1) ∧ Below w.heap.size w w' ∧ AimsAt w'.heap.size w' b 0 (singleP s).aims := by
  have := double_any s true w
  simpa only [if_true] using this

theorem cells4 {W : World} {b : Nat} {x0 x1 x2 x3 : Int} {t : TypeId} (h : W.heap[b]? = some (.cells #[.int .i64 x0, .int .i64 x1, .int .i64 x2, .int .i64 x3] t (0, 0))) : ∀ i, i < 4 → W.cell? ⟨b, 0 + i, none⟩ = some (.int .i64 (numOf [x0, x1, x2, x3] i)) := by
  intro i hi
  have : i = 0 ∨ i = 1 ∨ i = 2 ∨ i = 3 := by omega
  rcases this with rfl | rfl | rfl | rfl <;> simp [World.cell?, h, numOf]
theorem cells3 {W : World} {b : Nat} {x0 x1 x2 : Int} {t : TypeId} (h : W.heap[b]? = some (.cells #[.int .i64 x0, .int .i64 x1, .int .i64 x2] t (0, 0))) : ∀ i, i < 3 → W.cell? ⟨b, 0 + i, none⟩ = some (.int .i64 (numOf [x0, x1, x2] i)) := by
  intro i hi
  have : i = 0 ∨ i = 1 ∨ i = 2 := by omega
  rcases this with rfl | rfl | rfl <;> simp [World.cell?, h, numOf]

/-- A list against a literal that was just laid. -/
theorem alike_told (b n c : Nat) (x : Nat → Int) (cs : Array Value) (t : TypeId) (w : World) (hn : n ≤ 10) (hb : b < w.heap.size) (h : ∀ i, i < n → w.cell? ⟨b, 0 + i, none⟩ = some (.int .i64 (x i))) (hc : ∀ i, i < n → cs[i]? = some (.int .i64 (x i))) :
    Calls Try.prog 58 #[.slice (some ⟨b, 0, none⟩) n c, .slice (some ⟨w.heap.size, 0, none⟩) n n] (w.alloc (.cells cs t)) fun e w' => e = .returned (.bool true) ∧ Below w.heap.size w w' := by
  refine (alike_true b 0 w.heap.size 0 n c n x _ (by omega) (fun i hi => (cell_old w _ _ hb).trans (h i hi)) (fun i hi => by rw [Nat.zero_add, cell_new w cs t (0, 0) _ i rfl]; exact hc i hi)).mono ?_
  rintro e w' ⟨rfl, m, rfl⟩
  exact ⟨rfl, ((Below.refl _ w).alloc (Nat.le_refl _) _).trans ⟨rfl, rfl, rfl, Nat.le_refl _, fun _ _ => rfl⟩⟩

theorem aim_told (b : Nat) (w : World) (hA : AimsAt w.heap.size w b 0 (doubleP 2).aims) :
    Calls Try.prog 16 #[rulesV (doubleP 2) b 0 1, .agg #[.int .i64 2, .int .i64 2, .int .i64 1]] w fun e w' => e = .returned (.tuple #[.int .i64 0, .int .i64 571429, .int .i64 0]) ∧ Below w.heap.size w w' := by
  refine (aim_any (doubleP 2) b 0 1 2 2 1 w (double_ok 2 (by omega) (by omega)) (double_full 2) hA ⟨by decide, by decide, by decide, by decide, by decide, by decide, .inl (by decide)⟩).mono ?_
  rintro e w' ⟨⟨a, m, hl, h⟩, hb⟩
  obtain ⟨rfl, rfl⟩ := listed_d2 hl
  rcases h with ⟨h, _⟩ | ⟨_, h⟩
  · exact absurd h (by decide)
  · exact ⟨h, hb⟩

theorem never_told (b : Nat) (w : World) (hA : AimsAt w.heap.size w b 0 (doubleP 3).aims) :
    Calls Try.prog 48 #[rulesV (doubleP 3) b 0 1] w fun e w' => ∃ g c, e = .returned (.tuple #[.slice (some ⟨g, 0, none⟩) 1 c, .int .i64 0]) ∧ Below w.heap.size w w' ∧ g < w'.heap.size ∧ w'.cell? ⟨g, 0, none⟩ = some (.int .i64 3) := by
  refine (never_any (doubleP 3) b 0 1 w (double_ok 3 (by omega) (by omega)) (double_full 3) hA).mono ?_
  rintro e w' ⟨v, rfl, hb, ho⟩
  rw [nevers_d3] at ho
  obtain ⟨g, c, rfl, h1, h2⟩ := ho.form (by decide)
  have := ho.cells rfl 0 (.int .i64 3) rfl
  have hadd : (⟨g, 0, none⟩ : Addr).add 0 = ⟨g, 0, none⟩ := by unfold Addr.add; split <;> simp_all
  rw [hadd] at this
  exact ⟨g, c, rfl, hb, h2, this⟩

set_option maxRecDepth 100000 in
set_option maxHeartbeats 2000000 in
theorem known_any (w : World) : Calls Try.prog 19 #[] w fun e w' => e = .returned (.bool true) ∧ Below w.heap.size w w' := by
  go_enter Try.func19, Try.ntmps19
  go_wp2_with fail
  refine (double_f 3 w).mono ?_
  rintro e w1 ⟨b1, rfl, hb1, hA1⟩
  go_wp2_with fail
  refine (table_told (doubleP 3) b1 1 w1 (double_ok 3 (by omega) (by omega)) (double_full 3) hA1 _ _ 4 table_d3u table_d3l rfl).mono ?_
  rintro e w2 ⟨bu, bl, rfl, hb2, zu, zl, cu, cl⟩
  have HB2 := Lib.hid (hb1.trans (hb2.mono hb1.size))
  have HCU := Lib.hid cu
  have HCL := Lib.hid cl
  clear hb1 hA1 hb2 cu cl
  go_wp2_with fail
  refine (double_t 2 w2).mono ?_
  rintro e w3 ⟨b3, rfl, hb3, hA3⟩
  go_wp2_with fail
  refine (table_told (singleP 2) b3 1 w3 (single_ok 2 (by omega) (by omega)) (single_full 2) hA3 _ _ 3 table_s2u table_s2l rfl).mono ?_
  rintro e w4 ⟨bv, bm, rfl, hb4, zv, zm, cv, cm⟩
  have hb24 := hb3.trans (hb4.mono hb3.size)
  have HB24 := Lib.hid hb24
  have HCV := Lib.hid cv
  have HCM := Lib.hid cm
  have hz24 := hb24.size
  clear hb3 hA3 hb4 cv cm hb24
  go_wp2_with fail
  refine (double_f 2 w4).mono ?_
  rintro e w5 ⟨b5, rfl, hb5, hA5⟩
  go_wp2_with fail
  refine (aim_told b5 w5 hA5).mono ?_
  rintro e w6 ⟨rfl, hb6⟩
  have hb46 := hb5.trans (hb6.mono hb5.size)
  have hz46 := hb46.size
  have HB46 := Lib.hid hb46
  clear hb5 hA5 hb6 hb46
  go_wp2_with fail
  refine (double_f 3 w6).mono ?_
  rintro e w7 ⟨b7, rfl, hb7, hA7⟩
  go_wp2_with fail
  refine (never_told b7 w7 hA7).mono ?_
  rintro e w8 ⟨bn, cn, rfl, hb8, zn, cn0⟩
  have hb68 := hb7.trans (hb8.mono hb7.size)
  have hz68 := hb68.size
  have HB68 := Lib.hid hb68
  have HCN := Lib.hid cn0
  clear hb7 hA7 hb8 cn0 hb68
  have h28 := HB24.out.trans ((HB46.out.trans (HB68.out.mono hz46)).mono hz24)
  have h48 := HB46.out.trans (HB68.out.mono hz46)
  have hU : ∀ W : World, Below w8.heap.size w8 W → ∀ i, i < 4 → W.cell? ⟨bu, 0 + i, none⟩ = some (.int .i64 (numOf [0, 0, 1142858, 2000000000] i)) := fun W hW i hi => ((h28.trans (hW.mono (by omega))).cell (p := ⟨bu, 0 + i, none⟩) zu).trans (HCU.out i hi)
  have hL : ∀ W : World, Below w8.heap.size w8 W → ∀ i, i < 4 → W.cell? ⟨bl, 0 + i, none⟩ = some (.int .i64 (numOf [0, 0, 1142857, 1000000000] i)) := fun W hW i hi => ((h28.trans (hW.mono (by omega))).cell (p := ⟨bl, 0 + i, none⟩) zl).trans (HCL.out i hi)
  have hV : ∀ W : World, Below w8.heap.size w8 W → ∀ i, i < 3 → W.cell? ⟨bv, 0 + i, none⟩ = some (.int .i64 (numOf [0, 0, 2000000] i)) := fun W hW i hi => ((h48.trans (hW.mono (by omega))).cell (p := ⟨bv, 0 + i, none⟩) zv).trans (HCV.out i hi)
  have hM : ∀ W : World, Below w8.heap.size w8 W → ∀ i, i < 3 → W.cell? ⟨bm, 0 + i, none⟩ = some (.int .i64 (numOf [0, 0, 1142857] i)) := fun W hW i hi => ((h48.trans (hW.mono (by omega))).cell (p := ⟨bm, 0 + i, none⟩) zm).trans (HCM.out i hi)
  have hN : ∀ W : World, Below w8.heap.size w8 W → ∀ i, i < 1 → W.cell? ⟨bn, 0 + i, none⟩ = some (.int .i64 ((fun _ => 3 : Nat → Int) i)) := fun W hW i hi => by
    obtain rfl : i = 0 := by omega
    exact (hW.cell (p := ⟨bn, 0, none⟩) zn).trans HCN.out
  have HU := Lib.hid hU
  have HL := Lib.hid hL
  have HV := Lib.hid hV
  have HM := Lib.hid hM
  have HN := Lib.hid hN
  have HBB := Lib.hid (HB2.out.trans (h28.mono (by have := HB2.out.size; omega)))
  have hz08 : w.heap.size ≤ w8.heap.size := (HB2.out.trans (h28.mono (by have := HB2.out.size; omega))).size
  clear hU hL hV hM hN h28 h48
  go_wp2_with fail
  refine (alike_told bu 4 4 (fun i => numOf [0, 0, 1142858, 2000000000] i) #[.int .i64 0, .int .i64 0, .int .i64 1142858, .int .i64 2000000000] _ w8 (by omega) (by omega) (HU.out _ (Below.refl _ _)) (by intro i hi; rcases (show i = 0 ∨ i = 1 ∨ i = 2 ∨ i = 3 by omega) with rfl | rfl | rfl | rfl <;> rfl)).mono ?_
  rintro e w9 ⟨rfl, hbw9⟩
  have hzw9 := hbw9.size
  have h8w9 : Below w8.heap.size w8 w9 := hbw9
  have H8w9 := Lib.hid h8w9
  clear hbw9 h8w9
  go_wp2_with fail
  refine (alike_told bl 4 4 (fun i => numOf [0, 0, 1142857, 1000000000] i) #[.int .i64 0, .int .i64 0, .int .i64 1142857, .int .i64 1000000000] _ w9 (by omega) (by omega) (HL.out _ H8w9.out) (by intro i hi; rcases (show i = 0 ∨ i = 1 ∨ i = 2 ∨ i = 3 by omega) with rfl | rfl | rfl | rfl <;> rfl)).mono ?_
  rintro e w10 ⟨rfl, hbw10⟩
  have hzw10 := hbw10.size
  have h8w10 : Below w8.heap.size w8 w10 := H8w9.out.trans (hbw10.mono (by omega))
  have H8w10 := Lib.hid h8w10
  clear hbw10 h8w10
  go_wp2_with fail
  refine (alike_told bv 3 3 (fun i => numOf [0, 0, 2000000] i) #[.int .i64 0, .int .i64 0, .int .i64 2000000] _ w10 (by omega) (by omega) (HV.out _ H8w10.out) (by intro i hi; rcases (show i = 0 ∨ i = 1 ∨ i = 2 by omega) with rfl | rfl | rfl <;> rfl)).mono ?_
  rintro e w11 ⟨rfl, hbw11⟩
  have hzw11 := hbw11.size
  have h8w11 : Below w8.heap.size w8 w11 := H8w10.out.trans (hbw11.mono (by omega))
  have H8w11 := Lib.hid h8w11
  clear hbw11 h8w11
  go_wp2_with fail
  refine (alike_told bm 3 3 (fun i => numOf [0, 0, 1142857] i) #[.int .i64 0, .int .i64 0, .int .i64 1142857] _ w11 (by omega) (by omega) (HM.out _ H8w11.out) (by intro i hi; rcases (show i = 0 ∨ i = 1 ∨ i = 2 by omega) with rfl | rfl | rfl <;> rfl)).mono ?_
  rintro e w12 ⟨rfl, hbw12⟩
  have hzw12 := hbw12.size
  have h8w12 : Below w8.heap.size w8 w12 := H8w11.out.trans (hbw12.mono (by omega))
  have H8w12 := Lib.hid h8w12
  clear hbw12 h8w12
  go_wp2_with fail
  refine (alike_told bn 1 cn (fun _ => 3) #[.int .i64 3] _ w12 (by omega) (by omega) (HN.out _ H8w12.out) (fun i hi => by rw [show i = 0 by omega]; rfl)).mono ?_
  rintro e w13 ⟨rfl, hbw13⟩
  have hzw13 := hbw13.size
  have h8w13 : Below w8.heap.size w8 w13 := H8w12.out.trans (hbw13.mono (by omega))
  have H8w13 := Lib.hid h8w13
  clear hbw13 h8w13
  go_wp2
  go_ret
  exact ⟨rfl, HBB.out.trans (H8w13.out.mono hz08)⟩

end Go.Proofs.Ytnaehbgmfajdjaa
