/- A bit that was set is set. -/
import Derived.WalkSmall
import Derived.Test.YtnaehbgmfajdjaaMem
namespace Go.Proofs.Ytnaehbgmfajdjaa

theorem wrap16 (n : Nat) (h : n < 65536) : IntKind.u16.wrap (n : Int) = n := by
  unfold IntKind.wrap
  simp [IntKind.bits, IntKind.signed]
  omega

theorem bit_set (f p : Nat) (hf : f < 65536) (hp : p < 16) : bits BinOp.and IntKind.u16 (bits BinOp.or IntKind.u16 (f : Int) (IntKind.u16.wrap (2 ^ p)) / 2 ^ p) 1 = 1 := by
  have hp2 : 2 ^ p < 65536 := Nat.pow_lt_pow_right (by omega) hp
  have e1 : IntKind.u16.wrap ((2 : Int) ^ p) = ((2 ^ p : Nat) : Int) := by
    rw [show (2 : Int) ^ p = ((2 ^ p : Nat) : Int) by simp]
    exact wrap16 _ hp2
  rw [e1]
  have hor : f ||| 2 ^ p < 65536 := Nat.or_lt_two_pow (n := 16) hf hp2
  have e2 : bits BinOp.or IntKind.u16 (f : Int) ((2 ^ p : Nat) : Int) = ((f ||| 2 ^ p : Nat) : Int) := by
    unfold bits
    have h16 : IntKind.u16.bits = 16 := rfl
    simp only [h16, BitVec.ofInt_natCast, BitVec.toNat_or, BitVec.toNat_ofNat]
    rw [Nat.mod_eq_of_lt (show f < 2 ^ 16 from hf), Nat.mod_eq_of_lt (show 2 ^ p < 2 ^ 16 from hp2)]
    exact wrap16 _ hor
  rw [e2]
  have e3 : (((f ||| 2 ^ p : Nat) : Int) / 2 ^ p) = (((f ||| 2 ^ p) / 2 ^ p : Nat) : Int) := by
    rw [show (2 : Int) ^ p = ((2 ^ p : Nat) : Int) by simp, ← Int.natCast_ediv]
  rw [e3]
  obtain ⟨m, hm⟩ : ∃ m, (f ||| 2 ^ p) / 2 ^ p = m := ⟨_, rfl⟩
  have hodd : m % 2 = 1 := by
    have h := Nat.testBit_or f (2 ^ p) p
    rw [Nat.testBit_two_pow_self, Bool.or_true, Nat.testBit_eq_decide_div_mod_eq, decide_eq_true_eq, hm] at h
    exact h
  have hml : m < 65536 := by
    rw [← hm]
    exact Nat.lt_of_le_of_lt (Nat.div_le_self _ _) hor
  rw [hm]
  have : (BitVec.ofInt 16 (m : Int) &&& BitVec.ofInt 16 1).toNat = 1 := by
    rw [BitVec.ofInt_natCast, BitVec.toNat_and, BitVec.toNat_ofNat, Nat.mod_eq_of_lt (show m < 2 ^ 16 from hml)]
    show m &&& 1 = 1
    rw [Nat.and_one_is_mod]
    exact hodd
  show IntKind.u16.wrap (((BitVec.ofInt 16 (m : Int) &&& BitVec.ofInt 16 1).toNat : Nat) : Int) = 1
  rw [this]
  rfl

end Go.Proofs.Ytnaehbgmfajdjaa
