/- alike of the law's package: two lists that are the same. -/
import Derived.Test.YtnaehbgmfajdjaaNever
import Derived.Test.YtnaehbgmfajdjaaFar
namespace Go.Proofs.Ytnaehbgmfajdjaa
open Go.RowKit AimP

set_option maxRecDepth 100000 in
set_option maxHeartbeats 1000000 in
theorem alike_true (b1 o1 b2 o2 n c1 c2 : Nat) (x : Nat → Int) (w : World) (hn : (n : Int) ≤ 1000000)
    (h1 : ∀ i, i < n → w.cell? ⟨b1, o1 + i, none⟩ = some (.int .i64 (x i))) (h2 : ∀ i, i < n → w.cell? ⟨b2, o2 + i, none⟩ = some (.int .i64 (x i))) :
    Calls Try.prog 58 #[.slice (some ⟨b1, o1, none⟩) n c1, .slice (some ⟨b2, o2, none⟩) n c2] w fun e w' => e = .returned (.bool true) ∧ ∃ m, w' = w.drewN m := by
  have H1 := Lib.hid h1
  have H2 := Lib.hid h2
  clear h1 h2
  go_enter Try.func58, Try.ntmps58
  go_wp2
  go_loopw [5] (fun vi wr => ∃ i : Nat, vi = .int .i64 i ∧ i ≤ n ∧ ∃ m, wr = w.drewN m) (fun vi _ => n - (intOf vi).toNat)
  case atStart => exact ⟨0, rfl, Nat.zero_le _, 0, rfl⟩
  case round =>
    obtain ⟨i, rfl, hin, m, rfl⟩ := hrel
    by_cases hlt : i < n
    · have e1 : w.cell? ⟨b1, o1 + i, none⟩ = some (.int .i64 (x i)) := H1.out i hlt
      have e2 : w.cell? ⟨b2, o2 + i, none⟩ = some (.int .i64 (x i)) := H2.out i hlt
      obtain ⟨xi, hxi⟩ : ∃ xi, x i = xi := ⟨_, rfl⟩
      rw [hxi] at e1 e2
      have hx0 : (xi != xi) = false := by simp
      go_wp2_with fail
      go_quiet (fail)
      go_wp2
      go_roundw
      case rel => exact ⟨i + 1, by go_num, hlt, m + nq, rfl⟩
      case measure => simp [intOf]; omega
    · obtain rfl : i = n := by omega
      go_wp2
      go_ret
      exact ⟨rfl, m, rfl⟩

end Go.Proofs.Ytnaehbgmfajdjaa
