/- slices.IndexFunc and slices.ContainsFunc of Go's library, at integers, aims and beds, over a predicate that may keep a state. -/
import Derived.Test.YtnaehbgmfajdjaaMem
namespace Go.Proofs.Ytnaehbgmfajdjaa
open Go.RowKit AimP

set_option maxRecDepth 100000 in
set_option maxHeartbeats 1000000 in
theorem index_int (b off n cp : Nat) (x0 : Nat → Value) (g : Nat) (cap : Array Value) (p : Nat → Bool) (S : World → Prop) (w : World) (eg : ∀ args w, (callFunc g args).run Try.prog w = .ok (.enter g args) w) (hn : (n : Int) ≤ 1000000)
    (hc : ∀ (i : Nat) (W : World), i < n → S W → W.cell? ⟨b, off + i, none⟩ = some (x0 i))
    (hf : ∀ (i : Nat) (W : World), i < n → S W → Calls Try.prog g (#[x0 i] ++ cap) W fun e W' => e = .returned (.bool (p i)) ∧ S W') (h0 : S w) :
    Calls Try.prog 101 #[.slice (some ⟨b, off, none⟩) n cp, .func (.func g) #[] cap] w fun e w' => (∃ j : Int, e = .returned (.int .i64 j) ∧ -1 ≤ j ∧ (0 ≤ j ↔ ∃ i, i < n ∧ p i = true)) ∧ S w' := by
  have HF := Lib.hid hf
  have HCC := Lib.hid hc
  have H0 := Lib.hid h0
  clear hf hc h0
  go_enter Try.func101, Try.ntmps101
  go_wp2
  go_loopw [8] (fun vi wr => ∃ i : Nat, vi = .int .i64 i ∧ i ≤ n ∧ Hid (S wr) ∧ Hid (∀ k, k < i → p k = false)) (fun vi _ => n - (intOf vi).toNat)
  case atStart => exact ⟨0, rfl, Nat.zero_le _, H0.out, fun k hk => absurd hk (Nat.not_lt_zero _)⟩
  case round =>
    obtain ⟨i, rfl, hin, hS, hP⟩ := hrel
    by_cases hlt : i < n
    · have c0 := HCC.out i wr hlt hS.out
      have hcall := HF.out i wr hlt hS.out
      obtain ⟨q, hq⟩ : ∃ q, p i = q := ⟨_, rfl⟩
      rw [hq] at hcall
      have HC := Lib.hid hcall
      have HQ := Lib.hid hq
      clear hcall hq
      go_wp2_with fail
      refine HC.out.mono ?_
      rintro e w2 ⟨rfl, hS2⟩
      have HS2 := Lib.hid hS2
      clear hS2
      cases q with
      | true =>
        go_wp2
        go_ret
        exact ⟨⟨i, rfl, by omega, ⟨fun _ => ⟨i, hlt, HQ.out⟩, fun _ => by omega⟩⟩, HS2.out⟩
      | false =>
        go_wp2
        go_roundw
        case rel =>
          refine ⟨i + 1, by go_num, hlt, HS2.out, fun k hk => ?_⟩
          by_cases he : k = i
          · rw [he]; exact HQ.out
          · exact hP.out k (by omega)
        case measure => simp [intOf]; omega
    · obtain rfl : i = n := by omega
      go_wp2
      go_ret
      refine ⟨⟨-1, rfl, by omega, ⟨fun h => by omega, ?_⟩⟩, hS.out⟩
      rintro ⟨k, hk, hk2⟩
      rw [hP.out k hk] at hk2
      exact absurd hk2 (by decide)

set_option maxRecDepth 100000 in
set_option maxHeartbeats 1000000 in
theorem contains_int (b off n cp : Nat) (x0 : Nat → Value) (g : Nat) (cap : Array Value) (p : Nat → Bool) (S : World → Prop) (w : World) (r : Bool) (eg : ∀ args w, (callFunc g args).run Try.prog w = .ok (.enter g args) w) (hn : (n : Int) ≤ 1000000)
    (hc : ∀ (i : Nat) (W : World), i < n → S W → W.cell? ⟨b, off + i, none⟩ = some (x0 i))
    (hf : ∀ (i : Nat) (W : World), i < n → S W → Calls Try.prog g (#[x0 i] ++ cap) W fun e W' => e = .returned (.bool (p i)) ∧ S W') (h0 : S w) (hr : r = true ↔ ∃ i, i < n ∧ p i = true) :
    Calls Try.prog 62 #[.slice (some ⟨b, off, none⟩) n cp, .func (.func g) #[] cap] w fun e w' => e = .returned (.bool r) ∧ S w' := by
  have hcall := index_int b off n cp x0 g cap p S w eg hn hc hf h0
  have HC := Lib.hid hcall
  have HR := Lib.hid hr
  clear hf hc h0 hcall hr
  go_enter Try.func62, Try.ntmps62
  go_wp2_with fail
  refine HC.out.mono ?_
  rintro e w2 ⟨⟨j, rfl, hj1, hj⟩, hS2⟩
  have HS2 := Lib.hid hS2
  have HJ := Lib.hid hj
  clear hS2 hj
  go_wp2
  go_ret
  refine ⟨ret_bool ?_, HS2.out⟩
  have h1 := HJ.out
  have h2 := HR.out
  rw [← h1] at h2
  cases r with
  | true => simpa using h2
  | false => simp at h2; simp; omega

set_option maxRecDepth 100000 in
set_option maxHeartbeats 1000000 in
theorem index_aim (b off n cp : Nat) (x0 x1 : Nat → Value) (g : Nat) (cap : Array Value) (p : Nat → Bool) (S : World → Prop) (w : World) (eg : ∀ args w, (callFunc g args).run Try.prog w = .ok (.enter g args) w) (hn : (n : Int) ≤ 1000000)
    (hc : ∀ (i : Nat) (W : World), i < n → S W → W.cell? ⟨b, off + i*2, none⟩ = some (x0 i) ∧ W.cell? ⟨b, off + i*2 + 1, none⟩ = some (x1 i))
    (hf : ∀ (i : Nat) (W : World), i < n → S W → Calls Try.prog g (#[.agg #[x0 i, x1 i]] ++ cap) W fun e W' => e = .returned (.bool (p i)) ∧ S W') (h0 : S w) :
    Calls Try.prog 164 #[.slice (some ⟨b, off, none⟩) n cp, .func (.func g) #[] cap] w fun e w' => (∃ j : Int, e = .returned (.int .i64 j) ∧ -1 ≤ j ∧ (0 ≤ j ↔ ∃ i, i < n ∧ p i = true)) ∧ S w' := by
  have HF := Lib.hid hf
  have HCC := Lib.hid hc
  have H0 := Lib.hid h0
  clear hf hc h0
  go_enter Try.func164, Try.ntmps164
  go_wp2
  go_loopw [8] (fun vi wr => ∃ i : Nat, vi = .int .i64 i ∧ i ≤ n ∧ Hid (S wr) ∧ Hid (∀ k, k < i → p k = false)) (fun vi _ => n - (intOf vi).toNat)
  case atStart => exact ⟨0, rfl, Nat.zero_le _, H0.out, fun k hk => absurd hk (Nat.not_lt_zero _)⟩
  case round =>
    obtain ⟨i, rfl, hin, hS, hP⟩ := hrel
    by_cases hlt : i < n
    · have ⟨c0, c1⟩ := HCC.out i wr hlt hS.out
      have hcall := HF.out i wr hlt hS.out
      obtain ⟨q, hq⟩ : ∃ q, p i = q := ⟨_, rfl⟩
      rw [hq] at hcall
      have HC := Lib.hid hcall
      have HQ := Lib.hid hq
      clear hcall hq
      go_wp2_with fail
      refine HC.out.mono ?_
      rintro e w2 ⟨rfl, hS2⟩
      have HS2 := Lib.hid hS2
      clear hS2
      cases q with
      | true =>
        go_wp2
        go_ret
        exact ⟨⟨i, rfl, by omega, ⟨fun _ => ⟨i, hlt, HQ.out⟩, fun _ => by omega⟩⟩, HS2.out⟩
      | false =>
        go_wp2
        go_roundw
        case rel =>
          refine ⟨i + 1, by go_num, hlt, HS2.out, fun k hk => ?_⟩
          by_cases he : k = i
          · rw [he]; exact HQ.out
          · exact hP.out k (by omega)
        case measure => simp [intOf]; omega
    · obtain rfl : i = n := by omega
      go_wp2
      go_ret
      refine ⟨⟨-1, rfl, by omega, ⟨fun h => by omega, ?_⟩⟩, hS.out⟩
      rintro ⟨k, hk, hk2⟩
      rw [hP.out k hk] at hk2
      exact absurd hk2 (by decide)

set_option maxRecDepth 100000 in
set_option maxHeartbeats 1000000 in
theorem contains_aim (b off n cp : Nat) (x0 x1 : Nat → Value) (g : Nat) (cap : Array Value) (p : Nat → Bool) (S : World → Prop) (w : World) (r : Bool) (eg : ∀ args w, (callFunc g args).run Try.prog w = .ok (.enter g args) w) (hn : (n : Int) ≤ 1000000)
    (hc : ∀ (i : Nat) (W : World), i < n → S W → W.cell? ⟨b, off + i*2, none⟩ = some (x0 i) ∧ W.cell? ⟨b, off + i*2 + 1, none⟩ = some (x1 i))
    (hf : ∀ (i : Nat) (W : World), i < n → S W → Calls Try.prog g (#[.agg #[x0 i, x1 i]] ++ cap) W fun e W' => e = .returned (.bool (p i)) ∧ S W') (h0 : S w) (hr : r = true ↔ ∃ i, i < n ∧ p i = true) :
    Calls Try.prog 130 #[.slice (some ⟨b, off, none⟩) n cp, .func (.func g) #[] cap] w fun e w' => e = .returned (.bool r) ∧ S w' := by
  have hcall := index_aim b off n cp x0 x1 g cap p S w eg hn hc hf h0
  have HC := Lib.hid hcall
  have HR := Lib.hid hr
  clear hf hc h0 hcall hr
  go_enter Try.func130, Try.ntmps130
  go_wp2_with fail
  refine HC.out.mono ?_
  rintro e w2 ⟨⟨j, rfl, hj1, hj⟩, hS2⟩
  have HS2 := Lib.hid hS2
  have HJ := Lib.hid hj
  clear hS2 hj
  go_wp2
  go_ret
  refine ⟨ret_bool ?_, HS2.out⟩
  have h1 := HJ.out
  have h2 := HR.out
  rw [← h1] at h2
  cases r with
  | true => simpa using h2
  | false => simp at h2; simp; omega

set_option maxRecDepth 100000 in
set_option maxHeartbeats 1000000 in
theorem index_bed (b off n cp : Nat) (x0 x1 x2 : Nat → Value) (g : Nat) (cap : Array Value) (p : Nat → Bool) (S : World → Prop) (w : World) (eg : ∀ args w, (callFunc g args).run Try.prog w = .ok (.enter g args) w) (hn : (n : Int) ≤ 1000000)
    (hc : ∀ (i : Nat) (W : World), i < n → S W → W.cell? ⟨b, off + i*3, none⟩ = some (x0 i) ∧ W.cell? ⟨b, off + i*3 + 1, none⟩ = some (x1 i) ∧ W.cell? ⟨b, off + i*3 + 1 + 1, none⟩ = some (x2 i))
    (hf : ∀ (i : Nat) (W : World), i < n → S W → Calls Try.prog g (#[.agg #[x0 i, x1 i, x2 i]] ++ cap) W fun e W' => e = .returned (.bool (p i)) ∧ S W') (h0 : S w) :
    Calls Try.prog 183 #[.slice (some ⟨b, off, none⟩) n cp, .func (.func g) #[] cap] w fun e w' => (∃ j : Int, e = .returned (.int .i64 j) ∧ -1 ≤ j ∧ (0 ≤ j ↔ ∃ i, i < n ∧ p i = true)) ∧ S w' := by
  have HF := Lib.hid hf
  have HCC := Lib.hid hc
  have H0 := Lib.hid h0
  clear hf hc h0
  go_enter Try.func183, Try.ntmps183
  go_wp2
  go_loopw [8] (fun vi wr => ∃ i : Nat, vi = .int .i64 i ∧ i ≤ n ∧ Hid (S wr) ∧ Hid (∀ k, k < i → p k = false)) (fun vi _ => n - (intOf vi).toNat)
  case atStart => exact ⟨0, rfl, Nat.zero_le _, H0.out, fun k hk => absurd hk (Nat.not_lt_zero _)⟩
  case round =>
    obtain ⟨i, rfl, hin, hS, hP⟩ := hrel
    by_cases hlt : i < n
    · have ⟨c0, c1, c2⟩ := HCC.out i wr hlt hS.out
      have hcall := HF.out i wr hlt hS.out
      obtain ⟨q, hq⟩ : ∃ q, p i = q := ⟨_, rfl⟩
      rw [hq] at hcall
      have HC := Lib.hid hcall
      have HQ := Lib.hid hq
      clear hcall hq
      go_wp2_with fail
      refine HC.out.mono ?_
      rintro e w2 ⟨rfl, hS2⟩
      have HS2 := Lib.hid hS2
      clear hS2
      cases q with
      | true =>
        go_wp2
        go_ret
        exact ⟨⟨i, rfl, by omega, ⟨fun _ => ⟨i, hlt, HQ.out⟩, fun _ => by omega⟩⟩, HS2.out⟩
      | false =>
        go_wp2
        go_roundw
        case rel =>
          refine ⟨i + 1, by go_num, hlt, HS2.out, fun k hk => ?_⟩
          by_cases he : k = i
          · rw [he]; exact HQ.out
          · exact hP.out k (by omega)
        case measure => simp [intOf]; omega
    · obtain rfl : i = n := by omega
      go_wp2
      go_ret
      refine ⟨⟨-1, rfl, by omega, ⟨fun h => by omega, ?_⟩⟩, hS.out⟩
      rintro ⟨k, hk, hk2⟩
      rw [hP.out k hk] at hk2
      exact absurd hk2 (by decide)

set_option maxRecDepth 100000 in
set_option maxHeartbeats 1000000 in
theorem contains_bed (b off n cp : Nat) (x0 x1 x2 : Nat → Value) (g : Nat) (cap : Array Value) (p : Nat → Bool) (S : World → Prop) (w : World) (r : Bool) (eg : ∀ args w, (callFunc g args).run Try.prog w = .ok (.enter g args) w) (hn : (n : Int) ≤ 1000000)
    (hc : ∀ (i : Nat) (W : World), i < n → S W → W.cell? ⟨b, off + i*3, none⟩ = some (x0 i) ∧ W.cell? ⟨b, off + i*3 + 1, none⟩ = some (x1 i) ∧ W.cell? ⟨b, off + i*3 + 1 + 1, none⟩ = some (x2 i))
    (hf : ∀ (i : Nat) (W : World), i < n → S W → Calls Try.prog g (#[.agg #[x0 i, x1 i, x2 i]] ++ cap) W fun e W' => e = .returned (.bool (p i)) ∧ S W') (h0 : S w) (hr : r = true ↔ ∃ i, i < n ∧ p i = true) :
    Calls Try.prog 167 #[.slice (some ⟨b, off, none⟩) n cp, .func (.func g) #[] cap] w fun e w' => e = .returned (.bool r) ∧ S w' := by
  have hcall := index_bed b off n cp x0 x1 x2 g cap p S w eg hn hc hf h0
  have HC := Lib.hid hcall
  have HR := Lib.hid hr
  clear hf hc h0 hcall hr
  go_enter Try.func167, Try.ntmps167
  go_wp2_with fail
  refine HC.out.mono ?_
  rintro e w2 ⟨⟨j, rfl, hj1, hj⟩, hS2⟩
  have HS2 := Lib.hid hS2
  have HJ := Lib.hid hj
  clear hS2 hj
  go_wp2
  go_ret
  refine ⟨ret_bool ?_, HS2.out⟩
  have h1 := HJ.out
  have h2 := HR.out
  rw [← h1] at h2
  cases r with
  | true => simpa using h2
  | false => simp at h2; simp; omega


end Go.Proofs.Ytnaehbgmfajdjaa
