/- The small functions of the statements' package: lowest, points, out, byteOf. -/
import Derived.Test.YtnaehbgmfajdjaaMem
namespace Go.Proofs.Ytnaehbgmfajdjaa
open Go.RowKit AimP

theorem points_any (b r : Int) (w : World) (h0 : 0 ≤ b) (h1 : b ≤ 425) (hr : r = score b) : Calls Try.prog 98 #[.int .i64 b] w fun e w' => e = .returned (.int .i64 r) ∧ w = w' := by
  have HR := Lib.hid hr
  clear hr
  have hq : 0 ≤ b / 100 ∧ b / 100 ≤ 4 := by omega
  have hm : 0 ≤ b % 100 ∧ b % 100 ≤ 99 := by omega
  have hp : 0 ≤ b / 100 * (b % 100) ∧ b / 100 * (b % 100) ≤ 396 := by
    refine ⟨Int.mul_nonneg hq.1 hm.1, ?_⟩
    have := Int.mul_le_mul hq.2 hm.2 hm.1 (by omega)
    omega
  go_enter Try.func98, Try.ntmps98
  go_wp2
  go_ret
  refine ⟨ret_int ?_, rfl⟩
  rw [HR.out]
  rfl

theorem lowestL_any (g r : Int) (w : World) (hr : r = lowest g) : Calls Try.prog 15 #[.int .i64 g] w fun e w' => e = .returned (.int .i64 r) ∧ w = w' := by
  have HR := Lib.hid hr
  clear hr
  by_cases h : g = 0
  · have h' : (g == 0) = true := by simpa using h
    have H := Lib.hid h
    clear h
    go_enter Try.func15, Try.ntmps15
    go_wp2
    go_ret
    exact ⟨ret_int (by rw [HR.out, lowest, if_pos H.out]), rfl⟩
  · have h' : (g == 0) = false := by simpa using h
    have H := Lib.hid h
    clear h
    go_enter Try.func15, Try.ntmps15
    go_wp2
    go_ret
    exact ⟨ret_int (by rw [HR.out, lowest, if_neg H.out]), rfl⟩

theorem outL_any (b g : Int) (r : Bool) (w : World) (h0 : 0 ≤ b) (h1 : b ≤ 425) (hg0 : 0 ≤ g) (hg : g ≤ 2) (hr : r = opens b g) : Calls Try.prog 99 #[.int .i64 b, .int .i64 g] w fun e w' => e = .returned (.bool r) ∧ w = w' := by
  have HR := Lib.hid hr
  clear hr
  have hq : 0 ≤ b / 100 ∧ b / 100 ≤ 4 := by omega
  have hg3 : g = 0 ∨ g = 1 ∨ g = 2 := by omega
  rcases hg3 with rfl | rfl | rfl
  · by_cases k : b = 0
    · have k1 : (b != 0) = false := by simpa using k
      have K := Lib.hid k
      clear k
      go_enter Try.func99, Try.ntmps99
      go_wp2
      go_ret
      exact ⟨ret_bool (by rw [HR.out, opens]; simp [K.out]), rfl⟩
    · have k1 : (b != 0) = true := by simpa using k
      have K := Lib.hid k
      clear k
      go_enter Try.func99, Try.ntmps99
      go_wp2
      go_ret
      exact ⟨ret_bool (by rw [HR.out, opens]; simp [K.out]), rfl⟩
  · by_cases k : b / 100 = 2
    · have k1 : (b / 100 == 2) = true := by simpa using k
      have K := Lib.hid k
      clear k
      go_enter Try.func99, Try.ntmps99
      go_wp2
      go_ret
      exact ⟨ret_bool (by rw [HR.out, opens]; simp [K.out]), rfl⟩
    · have k1 : (b / 100 == 2) = false := by simpa using k
      have K := Lib.hid k
      clear k
      go_enter Try.func99, Try.ntmps99
      go_wp2
      go_ret
      exact ⟨ret_bool (by rw [HR.out, opens]; simp [K.out]), rfl⟩
  · by_cases k : 2 ≤ b / 100
    · have k1 : decide (2 ≤ b / 100) = true := by simpa using k
      have K := Lib.hid k
      clear k
      go_enter Try.func99, Try.ntmps99
      go_wp2
      go_ret
      exact ⟨ret_bool (by rw [HR.out, opens]; simp [K.out]), rfl⟩
    · have k1 : decide (2 ≤ b / 100) = false := by simpa using k
      have K := Lib.hid k
      clear k
      go_enter Try.func99, Try.ntmps99
      go_wp2
      go_ret
      exact ⟨ret_bool (by rw [HR.out, opens]; simp [K.out]), rfl⟩

/-- A byte of a list, used again and again. -/
def byteP (n : Nat) (l : Nat → Nat) (i : Nat) : Nat := if n = 0 then 0 else l (i % n)

theorem byteP_lt {n : Nat} {l : Nat → Nat} (hl : ∀ j, l j < 256) (i : Nat) : byteP n l i < 256 := by
  unfold byteP; split
  · omega
  · exact hl _

/-- A list of small numbers in memory: nil or not, empty or not. -/
structure ListAt (W : World) (k : IntKind) (p : Option Addr) (n : Nat) (l : Nat → Nat) : Prop where
  len : (n : Int) ≤ 9223372036854775807
  cells : 0 < n → ∃ b off, p = some ⟨b, off, none⟩ ∧ b < W.heap.size ∧ ∀ j, j < n → W.cell? ⟨b, off + j, none⟩ = some (.int k (l j))

theorem ListAt.below {W W' : World} {k : IntKind} {p : Option Addr} {n : Nat} {l : Nat → Nat} (h : ListAt W k p n l) (hb : Below W.heap.size W W') : ListAt W' k p n l :=
  ⟨h.len, fun hn => let ⟨b, off, h1, h2, h3⟩ := h.cells hn; ⟨b, off, h1, Nat.lt_of_lt_of_le h2 hb.size, fun j hj => (hb.cell (p := ⟨b, off + j, none⟩) h2).trans (h3 j hj)⟩⟩

set_option maxHeartbeats 400000 in
theorem byteOf_any (p : Option Addr) (n c : Nat) (l : Nat → Nat) (i : Nat) (ii : Int) (r : Nat) (w : World) (hL : ListAt w .u8 p n l) (hii : ii = i) (hi : i ≤ 1000000) (hr : r = byteP n l i) :
    Calls Try.prog 21 #[.slice p n c, .int .i64 ii] w fun e w' => e = .returned (.int .u8 r) ∧ w = w' := by
  subst hii
  have hlen := hL.len
  by_cases h : n = 0
  · subst h
    have HR := Lib.hid hr
    clear hr hL
    go_enter Try.func21, Try.ntmps21
    go_wp2
    go_ret
    exact ⟨by rw [HR.out]; rfl, rfl⟩
  · obtain ⟨b, off, rfl, hb, hc⟩ := hL.cells (by omega)
    have hc' := hc (i % n) (Nat.mod_lt _ (by omega))
    have e : r = l (i % n) := by rw [hr, byteP, if_neg h]
    subst e
    have h0 : ((n : Int) == 0) = false := by rw [beq_eq_false_iff_ne]; omega
    have hm : (i : Int) % (n : Int) = ((i % n : Nat) : Int) := by simp
    obtain ⟨q, hq⟩ : ∃ q, i % n = q := ⟨_, rfl⟩
    have hqn : q < n := by rw [← hq]; exact Nat.mod_lt _ (by omega)
    rw [hq] at hm hc' ⊢
    have hn0 : (n : Int) ≠ 0 := by omega
    clear hr hL h hc hq
    go_enter Try.func21, Try.ntmps21
    go_wp2
    go_ret
    exact ⟨rfl, rfl⟩

end Go.Proofs.Ytnaehbgmfajdjaa
