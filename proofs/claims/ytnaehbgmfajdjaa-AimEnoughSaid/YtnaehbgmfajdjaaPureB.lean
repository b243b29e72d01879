/- Plain: the search by halves; the numbers of a table. -/
import Derived.Test.YtnaehbgmfajdjaaPure
namespace AimP

/-- The search of Go's sort package: how far it has come is between i and j; k rounds at most. -/
def sgo (p : Nat → Bool) : Nat → Nat → Nat → Nat
  | 0, i, _ => i
  | k + 1, i, j => if i < j then (if p ((i + j) / 2) then sgo p k i ((i + j) / 2) else sgo p k ((i + j) / 2 + 1) j) else i

def search (n : Nat) (p : Nat → Bool) : Nat := sgo p 40 0 n

theorem sgo_spec (p : Nat → Bool) (n : Nat) : ∀ (k i j : Nat), i ≤ j → j ≤ n → j - i < 2 ^ k → (i = 0 ∨ p (i - 1) = false) → (j = n ∨ p j = true) →
    i ≤ sgo p k i j ∧ sgo p k i j ≤ j ∧ (sgo p k i j = 0 ∨ p (sgo p k i j - 1) = false) ∧ (sgo p k i j = n ∨ p (sgo p k i j) = true)
  | 0, i, j, h1, h2, h3, h4, h5 => by
    have : i = j := by simp at h3; omega
    subst this
    exact ⟨Nat.le_refl _, Nat.le_refl _, h4, h5⟩
  | k + 1, i, j, h1, h2, h3, h4, h5 => by
    unfold sgo
    rw [Nat.pow_succ] at h3
    split
    · split
      · rename_i hij hp
        obtain ⟨a, b, c, d⟩ := sgo_spec p n k i ((i + j) / 2) (by omega) (by omega) (by omega) h4 (.inr hp)
        exact ⟨a, by omega, c, d⟩
      · rename_i hij hp
        obtain ⟨a, b, c, d⟩ := sgo_spec p n k ((i + j) / 2 + 1) j (by omega) h2 (by omega) (.inr (by simpa using hp)) h5
        exact ⟨by omega, b, c, d⟩
    · rename_i hij
      have : i = j := by omega
      subst this
      exact ⟨Nat.le_refl _, Nat.le_refl _, h4, h5⟩

theorem search_spec {n : Nat} (p : Nat → Bool) (hn : n < 2 ^ 40) : search n p ≤ n ∧ (search n p = 0 ∨ p (search n p - 1) = false) ∧ (search n p = n ∨ p (search n p) = true) := by
  obtain ⟨_, b, c, d⟩ := sgo_spec p n 40 0 n (Nat.zero_le _) (Nat.le_refl _) (by omega) (.inl rfl) (.inl rfl)
  exact ⟨b, c, d⟩

/-- The number that 'fill' finds for a score. -/
def fillN (r : Rules) (best : Bool) (num : List Int) (s : Nat) : Int :=
  if best then (search 1000000000 fun k => !holds r true (num.set s ((k : Int) + 1)) s : Nat)
  else
    if whole + (search 999000001 fun k => holds r false (num.set s (whole + (k : Int))) s : Nat) > maxV then never
    else whole + (search 999000001 fun k => holds r false (num.set s (whole + (k : Int))) s : Nat)

/-- The numbers when k scores from lowest on are filled. -/
def fillTo (r : Rules) (best : Bool) : Nat → List Int
  | 0 => List.replicate (r.start + 1) 0
  | k + 1 => (fillTo r best k).set ((lowest r.out).toNat + k) (fillN r best (fillTo r best k) ((lowest r.out).toNat + k))

def nScores (r : Rules) : Nat := r.start + 1 - (lowest r.out).toNat

/-- A table of numbers. -/
def table (r : Rules) (best : Bool) : List Int := fillTo r best (nScores r)

theorem fillTo_length (r : Rules) (best : Bool) : ∀ k, (fillTo r best k).length = r.start + 1
  | 0 => by simp [fillTo]
  | k + 1 => by simp [fillTo, fillTo_length r best k]

theorem table_length (r : Rules) (best : Bool) : (table r best).length = r.start + 1 := fillTo_length _ _ _

theorem numOk_set {num : List Int} (h : NumOk num) {v : Int} (hv : 0 ≤ v ∧ v ≤ never) (s : Nat) : NumOk (num.set s v) := by
  intro u hu
  rcases List.mem_or_eq_of_mem_set hu with hu | rfl
  · exact h u hu
  · exact hv

theorem fillN_bd (r : Rules) (best : Bool) (num : List Int) (s : Nat) : 0 ≤ fillN r best num s ∧ fillN r best num s ≤ never := by
  unfold fillN
  split
  · have := (search_spec (n := 1000000000) (fun k => !holds r true (num.set s ((k : Int) + 1)) s) (by decide)).1
    unfold never; omega
  · split
    · unfold never; omega
    · rename_i h
      unfold whole maxV at *
      unfold never
      omega

theorem fillTo_ok (r : Rules) (best : Bool) : ∀ k, NumOk (fillTo r best k)
  | 0 => by
    intro v hv
    rw [fillTo] at hv
    have := List.eq_of_mem_replicate hv
    subst this
    simp [never]
  | k + 1 => numOk_set (fillTo_ok r best k) (fillN_bd ..) _

theorem table_ok (r : Rules) (best : Bool) : NumOk (table r best) := fillTo_ok _ _ _

end AimP
