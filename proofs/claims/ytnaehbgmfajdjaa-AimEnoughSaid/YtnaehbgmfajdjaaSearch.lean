/- sort.Search of Go's library, over a function that may change what its caller knows. -/
import Derived.Test.YtnaehbgmfajdjaaMem
import Derived.Test.YtnaehbgmfajdjaaPureB
namespace Go.Proofs.Ytnaehbgmfajdjaa
open Go.RowKit AimP

set_option maxRecDepth 100000 in
set_option maxHeartbeats 1000000 in
theorem search_any (n : Nat) (g : Nat) (cap : Array Value) (p : Nat → Bool) (S : World → Prop) (w : World) (hn : n < 2 ^ 40) (eg : ∀ args w, (callFunc g args).run Try.prog w = .ok (.enter g args) w)
    (hf : ∀ (k : Nat) (W : World), k < n → S W → Calls Try.prog g (#[.int .i64 (k : Int)] ++ cap) W fun e W' => e = .returned (.bool (p k)) ∧ S W') (h0 : S w) :
    Calls Try.prog 136 #[.int .i64 (n : Int), .func (.func g) #[] cap] w fun e w' => e = .returned (.int .i64 ((search n p : Nat) : Int)) ∧ S w' := by
  have HF := Lib.hid hf
  have H0 := Lib.hid h0
  have hn' : n < 1099511627776 := hn
  obtain ⟨R, hR⟩ : ∃ R, search n p = R := ⟨_, rfl⟩
  have HR := Lib.hid hR
  rw [hR]
  clear hf h0 hR hn
  go_enter Try.func136, Try.ntmps136
  go_wp2
  go_loopw [5, 6] (fun vi vj wr => ∃ (i j k : Nat), vi = .int .i64 i ∧ vj = .int .i64 j ∧ i ≤ j ∧ j ≤ n ∧ Hid (S wr) ∧ Hid (j - i < 2 ^ k) ∧ Hid (sgo p k i j = R)) (fun vi vj _ => (intOf vj - intOf vi).toNat)
  case atStart => exact ⟨0, n, 40, rfl, rfl, Nat.zero_le _, Nat.le_refl _, H0.out, (by unfold Hid; omega), HR.out⟩
  case round =>
    obtain ⟨i, j, k, rfl, rfl, hij, hjn, hS, hk, hG⟩ := hrel
    by_cases hlt : i < j
    · obtain ⟨k1, rfl⟩ : ∃ k1, k = k1 + 1 := by
        cases k with
        | zero => have := hk.out; simp at this; omega
        | succ k => exact ⟨k, rfl⟩
      have hg := hG.out
      unfold sgo at hg
      rw [if_pos hlt] at hg
      have hk' := hk.out
      rw [Nat.pow_succ] at hk'
      obtain ⟨h, hh⟩ : ∃ h, (i + j) / 2 = h := ⟨_, rfl⟩
      rw [hh] at hg
      have hhb : i ≤ h ∧ h < j := by omega
      have HH := Lib.hid hh
      clear hh
      have hc := HF.out h wr (by omega) hS.out
      obtain ⟨b, hb⟩ : ∃ b, p h = b := ⟨_, rfl⟩
      rw [hb] at hc hg
      have HC := Lib.hid hc
      have HGG := Lib.hid hg
      have HK := Lib.hid hk'
      clear hc hg hk' hb
      go_wp2_with fail
      rw [show ((i : Int) + (j : Int)) / 2 = (h : Int) by rw [← HH.out]; omega]
      refine HC.out.mono ?_
      rintro e w2 ⟨rfl, hS2⟩
      have HS2 := Lib.hid hS2
      clear hS2
      cases hbb : b with
      | true =>
        rw [hbb] at HGG
        go_wp2
        go_roundw
        case rel => exact ⟨i, h, k1, rfl, rfl, hhb.1, by omega, HS2.out, by have := HK.out; have := HH.out; unfold Hid; omega, HGG.out⟩
        case measure => simp [intOf]; omega
      | false =>
        rw [hbb] at HGG
        go_wp2
        go_roundw
        case rel => exact ⟨h + 1, j, k1, by go_num, rfl, by omega, hjn, HS2.out, by have := HK.out; have := HH.out; unfold Hid; omega, HGG.out⟩
        case measure => simp [intOf]; omega
    · have hijz : i = j := by omega
      subst hijz
      go_wp2
      go_ret
      refine ⟨ret_int ?_, hS.out⟩
      have := hG.out
      cases k with
      | zero => simp [sgo] at this; omega
      | succ k => unfold sgo at this; rw [if_neg hlt] at this; omega

end Go.Proofs.Ytnaehbgmfajdjaa
