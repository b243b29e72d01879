/- Plain: the truth that the statements make of bytes. -/
import Derived.Test.YtnaehbgmfajdjaaTruth
namespace AimP

def getI (l : List Int) (i : Nat) : Int := (l[i]?).getD 0
def highOf (l : List PBed) (i : Nat) : Int := ((l[i]?).map PBed.high).getD 0
def lowOf (l : List PBed) (i : Nat) : Int := ((l[i]?).map PBed.low).getD 0

/-- Which bed gets something in round k. -/
def pickB (len : Nat) (g : Nat → Nat) (at' k : Nat) : Nat := if 8 ≤ k then k % len else (g (at' + k) + k) % len
/-- How much it gets. -/
def moreB (l : List PBed) (g : Nat → Nat) (at' k : Nat) (s : List Int × Int) : Int :=
  if k < 8 then min (min s.2 (highOf l (pickB l.length g at' k) - getI s.1 (pickB l.length g at' k))) (1 + ((g (at' + k + 1) : Nat) : Int) % 7)
  else min s.2 (highOf l (pickB l.length g at' k) - getI s.1 (pickB l.length g at' k))

def tState (l : List PBed) (g : Nat → Nat) (at' : Nat) : Nat → List Int × Int
  | 0 => (l.map PBed.low, 24 - lows l)
  | k + 1 => ((tState l g at' k).1.set (pickB l.length g at' k) (getI (tState l g at' k).1 (pickB l.length g at' k) + moreB l g at' k (tState l g at' k)), (tState l g at' k).2 - moreB l g at' k (tState l g at' k))

def truthP (l : List PBed) (g : Nat → Nat) (at' : Nat) : List Int := (tState l g at' 18).1

theorem total_lows : ∀ l : List PBed, total (l.map PBed.low) = lows l
  | [] => rfl
  | b :: l => by simp [total, lows, total_lows l]

theorem total_set : ∀ (t : List Int) (i : Nat) (v : Int), i < t.length → total (t.set i v) = total t + v - getI t i
  | [], i, v, h => by simp at h
  | a :: t, 0, v, _ => by simp [total, getI]; omega
  | a :: t, i + 1, v, h => by
    have := total_set t i v (by simpa using h)
    simp only [List.set_cons_succ, total, this, getI, List.getElem?_cons_succ]
    omega

theorem tr_of : ∀ {l : List PBed} {m : Int} {t : List Int}, t.length = l.length → (∀ i, i < l.length → lowOf l i ≤ getI t i ∧ getI t i ≤ highOf l i) → total t = m → Tr l m t
  | [], m, [], _, _, h => by simpa [Tr, total] using h.symm
  | [], _, _ :: _, h, _, _ => by simp at h
  | _ :: _, _, [], h, _, _ => by simp at h
  | b :: l, m, a :: t, hl, hb, h => by
    have h0 := hb 0 (by simp)
    simp [lowOf, highOf, getI] at h0
    refine ⟨h0.1, h0.2, tr_of (by simpa using hl) (fun i hi => ?_) ?_⟩
    · have := hb (i + 1) (by simpa using hi)
      simpa [lowOf, highOf, getI] using this
    · simp only [total] at h; omega

theorem total_highs : ∀ {l : List PBed} {t : List Int}, t.length = l.length → (∀ i, i < l.length → getI t i = highOf l i) → total t = highs l
  | [], [], _, _ => rfl
  | [], _ :: _, h, _ => by simp at h
  | _ :: _, [], h, _ => by simp at h
  | b :: l, a :: t, hl, hb => by
    have h0 := hb 0 (by simp)
    simp [highOf, getI] at h0
    have := total_highs (l := l) (t := t) (by simpa using hl) (fun i hi => by
      have := hb (i + 1) (by simpa using hi)
      simpa [highOf, getI] using this)
    simp only [total, highs, h0, this]

/-- What holds behind k rounds. -/
structure TInv (l : List PBed) (k : Nat) (s : List Int × Int) : Prop where
  len : s.1.length = l.length
  bd : ∀ i, i < l.length → lowOf l i ≤ getI s.1 i ∧ getI s.1 i ≤ highOf l i
  tot : total s.1 + s.2 = 24
  miss : 0 ≤ s.2
  full : ∀ j, 8 ≤ j → j < k → s.2 = 0 ∨ getI s.1 (j % l.length) = highOf l (j % l.length)

theorem lowOf_le {l : List PBed} {m : Int} (hs : Small m l) (i : Nat) (hi : i < l.length) : 0 ≤ lowOf l i ∧ lowOf l i ≤ highOf l i ∧ highOf l i ≤ m := by
  have := hs l[i] (List.getElem_mem hi)
  simp only [lowOf, highOf, List.getElem?_eq_getElem hi, Option.map_some, Option.getD_some]
  omega

theorem getI_set (t : List Int) (i j : Nat) (v : Int) (hi : i < t.length) : getI (t.set i v) j = if j = i then v else getI t j := by
  unfold getI
  by_cases h : j = i
  · subst h; simp [hi]
  · rw [if_neg h, List.getElem?_set_ne (Ne.symm h)]

theorem getI_map_low (l : List PBed) (i : Nat) : getI (l.map PBed.low) i = lowOf l i := by
  unfold getI lowOf
  rw [List.getElem?_map]

theorem pickB_lt {len : Nat} (h : 0 < len) (g : Nat → Nat) (at' k : Nat) : pickB len g at' k < len := by
  unfold pickB; split <;> exact Nat.mod_lt _ h

theorem tInv {l : List PBed} (hok : AimOk 24 l) (g : Nat → Nat) (at' : Nat) : ∀ k, TInv l k (tState l g at' k)
  | 0 => by
    have h0 := hok.lows
    refine ⟨by simp [tState], fun i hi => ?_, ?_, by simp only [tState]; omega, fun j _ h => absurd h (Nat.not_lt_zero _)⟩
    · rw [tState, getI_map_low]
      have := lowOf_le hok.small i hi
      omega
    · simp only [tState, total_lows]; omega
  | k + 1 => by
    have ih := tInv hok g at' k
    have hp := pickB_lt (len := l.length) (by have := hok.len1; omega) g at' k
    obtain ⟨p, hpe⟩ : ∃ p, pickB l.length g at' k = p := ⟨_, rfl⟩
    obtain ⟨s, hs⟩ : ∃ s, tState l g at' k = s := ⟨_, rfl⟩
    obtain ⟨x, hx⟩ : ∃ x, moreB l g at' k s = x := ⟨_, rfl⟩
    rw [hs] at ih
    rw [hpe] at hp
    have hbp := ih.bd p hp
    have hlp := lowOf_le hok.small p hp
    have hxx : 0 ≤ x ∧ x ≤ s.2 ∧ x ≤ highOf l p - getI s.1 p := by
      rw [← hx]
      unfold moreB
      rw [hpe]
      have h1 := ih.miss
      split
      · have : 0 ≤ ((g (at' + k + 1) : Nat) : Int) % 7 := by omega
        omega
      · omega
    have hf : 8 ≤ k → s.2 - x = 0 ∨ getI s.1 p + x = highOf l p := by
      intro h8
      rw [← hx]
      unfold moreB
      rw [hpe, if_neg (by omega)]
      omega
    have hl := ih.len
    have hsl : p < s.1.length := by omega
    rw [tState, hs, hpe, hx]
    refine ⟨by simpa using hl, fun i hi => ?_, ?_, by simp only; omega, fun j h8 hj => ?_⟩
    · rw [getI_set _ _ _ _ hsl]
      have := ih.bd i hi
      split
      · rename_i e; subst e; omega
      · exact this
    · simp only [total_set _ _ _ hsl]
      have := ih.tot
      omega
    · rw [getI_set _ _ _ _ hsl]
      by_cases hjk : j = k
      · subst hjk
        have hpj : p = j % l.length := by rw [← hpe, pickB, if_pos h8]
        rcases hf h8 with h | h
        · exact .inl h
        · right; rw [if_pos hpj.symm, ← hpj]; exact h
      · have := ih.full j h8 (by omega)
        split
        · rename_i e
          rcases this with h | h
          · left; have := ih.miss; simp only; omega
          · right; rw [e] at h ⊢; omega
        · rcases this with h | h
          · left; have := ih.miss; simp only; omega
          · right; exact h

/-- Behind 8 rounds and one for each bed nothing is missing. -/
theorem tDone {l : List PBed} (hok : AimOk 24 l) (g : Nat → Nat) (at' k : Nat) (hk : 8 + l.length ≤ k) : (tState l g at' k).2 = 0 := by
  have h := tInv hok g at' k
  rcases Int.lt_or_le 0 (tState l g at' k).2 with hp | hp
  · exfalso
    have hall : ∀ i, i < l.length → getI (tState l g at' k).1 i = highOf l i := by
      intro i hi
  
      -- a round j with j % len = i, 8 ≤ j < 8 + len
      obtain ⟨j, h8, hj, hji⟩ : ∃ j, 8 ≤ j ∧ j < 8 + l.length ∧ j % l.length = i := by
        have hlen : 0 < l.length := by omega
        obtain ⟨c, hc⟩ : ∃ c, 8 % l.length = c := ⟨_, rfl⟩
        have hcl : c < l.length := by rw [← hc]; exact Nat.mod_lt _ hlen
        by_cases hci : c ≤ i
        · refine ⟨8 + (i - c), by omega, by omega, ?_⟩
          rw [Nat.add_mod, hc, Nat.mod_eq_of_lt (show i - c < l.length by omega), Nat.mod_eq_of_lt (by omega)]
          omega
        · refine ⟨8 + (i + l.length - c), by omega, by omega, ?_⟩
          rw [Nat.add_mod, hc, Nat.mod_eq_of_lt (show i + l.length - c < l.length by omega), show c + (i + l.length - c) = i + l.length by omega, Nat.add_mod_right, Nat.mod_eq_of_lt hi]
      have := h.full j h8 (by omega)
      rw [hji] at this
      rcases this with h | h
      · omega
      · exact h
    have h1 := total_highs h.len hall
    have h2 := h.tot
    have h3 := hok.highs
    omega
  · have := h.miss; omega

theorem moreB_zero {l : List PBed} (hok : AimOk 24 l) (g : Nat → Nat) (at' k : Nat) {s : List Int × Int} (h : TInv l k s) (h0 : s.2 = 0) : moreB l g at' k s = 0 := by
  have hp := pickB_lt (len := l.length) (by have := hok.len1; omega) g at' k
  have := h.bd _ hp
  unfold moreB
  split
  · have : 0 ≤ ((g (at' + k + 1) : Nat) : Int) % 7 := by omega
    omega
  · omega

theorem set_self (t : List Int) (i : Nat) : t.set i (getI t i + 0) = t := by
  apply List.ext_getElem?
  intro j
  by_cases h : i = j
  · subst h
    by_cases hi : i < t.length
    · rw [List.getElem?_set_self hi]; simp [getI, hi]
    · rw [List.getElem?_eq_none (by simpa using hi), List.getElem?_eq_none (by simpa using hi)]
  · rw [List.getElem?_set_ne h]

/-- From where nothing is missing on, nothing turns. -/
theorem tStay {l : List PBed} (hok : AimOk 24 l) (g : Nat → Nat) (at' k : Nat) (h0 : (tState l g at' k).2 = 0) : ∀ j, tState l g at' (k + j) = tState l g at' k
  | 0 => rfl
  | j + 1 => by
    have ih := tStay hok g at' k h0 j
    have hm := moreB_zero hok g at' (k + j) (tInv hok g at' (k + j)) (by rw [ih]; exact h0)
    rw [← Nat.add_assoc, tState, hm, set_self, ih]
    simp

theorem truth_at {l : List PBed} (hok : AimOk 24 l) (g : Nat → Nat) (at' k : Nat) (hk : k ≤ 18) (h0 : (tState l g at' k).2 ≤ 0) : (tState l g at' k).1 = truthP l g at' := by
  have h1 := (tInv hok g at' k).miss
  have := tStay hok g at' k (by omega) (18 - k)
  rw [show k + (18 - k) = 18 by omega] at this
  unfold truthP
  rw [this]

theorem truth_tr {l : List PBed} (hok : AimOk 24 l) (g : Nat → Nat) (at' : Nat) : Tr l 24 (truthP l g at') := by
  have h := tInv hok g at' 18
  have h0 := tDone hok g at' 18 (by have := hok.len; omega)
  exact tr_of h.len h.bd (by have := h.tot; unfold truthP; omega)

theorem truth_length {l : List PBed} (hok : AimOk 24 l) (g : Nat → Nat) (at' : Nat) : (truthP l g at').length = l.length := (truth_tr hok g at').length

end AimP
