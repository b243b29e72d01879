/- after of the statements' package. -/
import Derived.Test.YtnaehbgmfajdjaaLawA
import Derived.Test.YtnaehbgmfajdjaaTables
namespace Go.Proofs.Ytnaehbgmfajdjaa
open Go.RowKit AimP

set_option maxRecDepth 100000 in
set_option maxHeartbeats 1000000 in
theorem after_any (r : Rules) (ba oa ca : Nat) (s left : Nat) (b : Int) (bv ov nv cv bd od nd cd : Nat) (num : List Int) (V : Int → Int) (res : Int) (w : World) (hr : RulesOk r) (hb0 : 0 ≤ b) (hb1 : b ≤ 425) (hl : left ≤ 60) (hs : s < nv) (_ : nv ≤ 100) (hnd : nd ≤ 100)
    (hbv : bv < w.heap.size) (hbd : bd < w.heap.size) (hv : w.cell? ⟨bv, ov + s, none⟩ = some (.int .i64 (numOf num s))) (hd : ∀ x : Nat, lowest r.out ≤ x → (x : Int) ≤ left → x < nd ∧ w.cell? ⟨bd, od + x, none⟩ = some (.int .i64 (V x)))
    (hres : res = nextV r.out num s V left b) :
    Calls Try.prog 56 #[rulesV r ba oa ca, .int .i64 s, .int .i64 left, .int .i64 b, .slice (some ⟨bv, ov, none⟩) nv cv, .slice (some ⟨bd, od, none⟩) nd cd] w fun e w' => e = .returned (.int .i64 res) ∧ Below w.heap.size w w' := by
  have hsc : 0 ≤ score b ∧ score b ≤ 396 := by
    have hq : 0 ≤ b / 100 ∧ b / 100 ≤ 4 := by omega
    have hm : 0 ≤ b % 100 ∧ b % 100 ≤ 99 := by omega
    refine ⟨Int.mul_nonneg hq.1 hm.1, ?_⟩
    have := Int.mul_le_mul hq.2 hm.2 hm.1 (by omega)
    unfold score; omega
  have hP := fun W => points_any b (score b) W hb0 hb1 rfl
  have hO := fun W => outL_any b r.out (opens b r.out) W hb0 hb1 hr.out0 hr.out rfl
  have hL := fun W => lowestL_any r.out (lowest r.out) W rfl
  have hlo := lowest_bd r.out
  have ho0 := hr.out0
  have ho1 := hr.out
  unfold rulesV
  obtain ⟨den, hden⟩ : ∃ den, r.den = den := ⟨_, rfl⟩
  obtain ⟨out, hout⟩ : ∃ out, r.out = out := ⟨_, rfl⟩
  obtain ⟨lo, hlo'⟩ : ∃ lo, lowest out = lo := ⟨_, rfl⟩
  obtain ⟨sc, hsc'⟩ : ∃ sc, score b = sc := ⟨_, rfl⟩
  obtain ⟨op, hop⟩ : ∃ op, opens b out = op := ⟨_, rfl⟩
  obtain ⟨ns, hns⟩ : ∃ ns, numOf num s = ns := ⟨_, rfl⟩
  unfold nextV at hres
  rw [hden, hout]
  rw [hout] at hO hL hlo ho0 ho1 hd hres
  rw [hlo'] at hL hlo hd hres
  rw [hsc'] at hsc hP hres
  rw [hop] at hO hres
  rw [hns] at hv hres
  clear hr hden hout hlo' hsc' hop hns
  have HP := Lib.hid hP
  have HO := Lib.hid hO
  have HL := Lib.hid hL
  clear hP hO hL
  by_cases h0 : (left : Int) - sc = 0
  · have h0' : ((left : Int) - sc == 0) = true := by simpa using h0
    have hlt : (left : Int) - sc < lo := by omega
    cases op with
    | true =>
      rw [if_pos ⟨h0, rfl⟩] at hres
      have HR := Lib.hid hres
      clear hres hd h0
      go_enter Try.func56, Try.ntmps56
      go_wp2_with (first
        | (go_at_call 98; refine (HP.out _).mono ?_; rintro e w' ⟨rfl, rfl⟩)
        | (go_at_call 99; refine (HO.out _).mono ?_; rintro e w' ⟨rfl, rfl⟩))
      go_ret
      exact ⟨by rw [HR.out]; rfl, (Below.refl _ _).alloc (Nat.le_refl _) _⟩
    | false =>
      rw [if_neg (by simp), if_pos hlt] at hres
      have HR := Lib.hid hres
      clear hres hd h0
      go_enter Try.func56, Try.ntmps56
      go_wp2_with (first
        | (go_at_call 98; refine (HP.out _).mono ?_; rintro e w' ⟨rfl, rfl⟩)
        | (go_at_call 99; refine (HO.out _).mono ?_; rintro e w' ⟨rfl, rfl⟩)
        | (go_at_call 15; refine (HL.out _).mono ?_; rintro e w' ⟨rfl, rfl⟩))
      go_ret
      exact ⟨by rw [HR.out]; rfl, (Below.refl _ _).alloc (Nat.le_refl _) _⟩
  · have h0' : ((left : Int) - sc == 0) = false := by simpa using h0
    by_cases hlt : (left : Int) - sc < lo
    · rw [if_neg (by omega), if_pos hlt] at hres
      have HR := Lib.hid hres
      clear hres hd h0
      go_enter Try.func56, Try.ntmps56
      go_wp2_with (first
        | (go_at_call 98; refine (HP.out _).mono ?_; rintro e w' ⟨rfl, rfl⟩)
        | (go_at_call 99; refine (HO.out _).mono ?_; rintro e w' ⟨rfl, rfl⟩)
        | (go_at_call 15; refine (HL.out _).mono ?_; rintro e w' ⟨rfl, rfl⟩))
      go_ret
      exact ⟨by rw [HR.out]; rfl, (Below.refl _ _).alloc (Nat.le_refl _) _⟩
    · rw [if_neg (by omega), if_neg hlt] at hres
      obtain ⟨x, hx⟩ : ∃ x : Nat, (left : Int) - sc = x := ⟨((left : Int) - sc).toNat, by omega⟩
      rw [hx] at hres h0' hlt
      obtain ⟨hxn, hxc⟩ := hd x (by omega) (by omega)
      have hsx : sc = (left : Int) - x := by omega
      subst hsx
      obtain ⟨vx, hvx⟩ : ∃ vx, V x = vx := ⟨_, rfl⟩
      rw [hvx] at hres hxc
      have HR := Lib.hid hres
      clear hres hd h0 hvx
      have hxl : (left : Int) - ((left : Int) - x) = x := by omega
      go_enter Try.func56, Try.ntmps56
      go_wp2_with (first
        | (go_at_call 98; refine (HP.out _).mono ?_; rintro e w' ⟨rfl, rfl⟩)
        | (go_at_call 99; refine (HO.out _).mono ?_; rintro e w' ⟨rfl, rfl⟩)
        | (go_at_call 15; refine (HL.out _).mono ?_; rintro e w' ⟨rfl, rfl⟩))
      go_ret
      exact ⟨by rw [HR.out]; rfl, (Below.refl _ _).alloc (Nat.le_refl _) _⟩

end Go.Proofs.Ytnaehbgmfajdjaa
