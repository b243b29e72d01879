/- Plain: the means by truths; values and tables compared; no program in sight. -/
import Derived.Test.YtnaehbgmfajdjaaPureB
namespace AimP

/-! ### Truths, and sums by them -/

def total : List Int → Int
  | [] => 0
  | t :: ts => t + total ts

theorem Tr.total : ∀ {l : List PBed} {m : Int} {t : List Int}, Tr l m t → total t = m
  | [], _, [], h => by simp [Tr] at h; simp [AimP.total, h]
  | [], _, _ :: _, h => by simp [Tr] at h
  | _ :: _, _, [], h => by simp [Tr] at h
  | b :: l, m, t :: ts, h => by
    have := Tr.total h.2.2
    simp only [AimP.total]; omega

theorem Tr.get : ∀ {l : List PBed} {m : Int} {t : List Int}, Tr l m t → ∀ {i : Nat} {x : PBed} {a : Int}, l[i]? = some x → t[i]? = some a → x.low ≤ a ∧ a ≤ x.high ∧ a ≤ m - lows l + x.low
  | [], _, _, _, i, x, a, hx, _ => by simp at hx
  | _ :: _, _, [], h, _, _, _, _, _ => by simp [Tr] at h
  | b :: l, m, t :: ts, h, 0, x, a, hx, ha => by
    simp at hx ha; subst hx ha
    have := h.2.2.bounds
    have h1 := h.1
    have h2 := h.2.1
    simp only [lows]; omega
  | b :: l, m, t :: ts, h, i + 1, x, a, hx, ha => by
    have := Tr.get h.2.2 (i := i) (x := x) (a := a) (by simpa using hx) (by simpa using ha)
    have h1 := h.1
    simp only [lows]; omega

theorem Tr.nonneg {m' : Int} {l : List PBed} {m : Int} {t : List Int} (h : Tr l m t) (hs : Small m' l) {i : Nat} {a : Int} (ha : t[i]? = some a) : 0 ≤ a := by
  have hi : i < l.length := by rw [← h.length]; exact (List.getElem?_eq_some_iff.1 ha).1
  have h1 := (h.get (List.getElem?_eq_getElem hi) ha).1
  have := hs l[i] (List.getElem_mem hi)
  omega

/-- A truth, and what is above the Lows. -/
theorem tr_can : ∀ {l : List PBed} {m : Int} {t us : List Int}, us.length = l.length → Tr l m t → Can (rooms l us) (m - lows l) (dot t us - base l us)
  | [], m, [], [], _, h => by simp [Tr] at h; subst h; exact Can.nil.2 ⟨by simp [lows], by simp [dot, base]⟩
  | [], _, _ :: _, _, _, h => by simp [Tr] at h
  | [], _, [], _ :: _, hl, _ => by simp at hl
  | _ :: _, _, [], _, _, h => by simp [Tr] at h
  | _ :: _, _, _ :: _, [], hl, _ => by simp at hl
  | b :: l, m, t :: ts, u :: us, hl, h => by
    have ih := tr_can (us := us) (by simpa using hl) h.2.2
    have h1 := h.1
    have h2 := h.2.1
    refine Can.cons.2 ⟨t - b.low, by omega, by simp only; omega, ?_⟩
    simp only [lows, dot, base]
    rw [show m - (b.low + lows l) - (t - b.low) = m - t - lows l by omega, Int.sub_mul,
      show t * u + dot ts us - (b.low * u + base l us) - (t * u - b.low * u) = dot ts us - base l us by omega]
    exact ih

theorem can_tr : ∀ {l : List PBed} {m s : Int} {us : List Int}, us.length = l.length → Can (rooms l us) (m - lows l) s → ∃ t, Tr l m t ∧ dot t us = base l us + s
  | [], m, s, [], _, h => by
    obtain ⟨h1, rfl⟩ := Can.nil.1 h
    exact ⟨[], by simpa [Tr, lows] using h1, by simp [dot, base]⟩
  | [], _, _, _ :: _, hl, _ => by simp at hl
  | _ :: _, _, _, [], hl, _ => by simp at hl
  | b :: l, m, s, u :: us, hl, h => by
    obtain ⟨x, h0, h1, h2⟩ := Can.cons.1 h
    simp only [lows] at h2
    simp only at h1
    rw [show m - (b.low + lows l) - x = (m - (b.low + x)) - lows l by omega] at h2
    obtain ⟨t, ht, hd⟩ := can_tr (us := us) (by simpa using hl) h2
    refine ⟨(b.low + x) :: t, ⟨by omega, by omega, ht⟩, ?_⟩
    simp only [dot, base, hd, Int.add_mul]
    omega

theorem lows_highs : ∀ {l : List PBed}, Spans l → lows l ≤ highs l
  | [], _ => by simp [lows, highs]
  | b :: l, h => by
    have := lows_highs h.2.2
    have := h.2.1
    simp only [lows, highs]; omega

theorem high_room : ∀ {l : List PBed} {i : Nat} {x : PBed}, Spans l → l[i]? = some x → x.high ≤ highs l - lows l + x.low
  | [], _, _, _, hx => by simp at hx
  | b :: l, 0, x, h, hx => by
    simp at hx; subst hx
    have := lows_highs h.2.2
    simp only [lows, highs]; omega
  | b :: l, i + 1, x, h, hx => by
    have := high_room h.2.2 (i := i) (x := x) (by simpa using hx)
    have := h.2.1
    simp only [lows, highs]; omega

/-- Where a bed may be hit, there is a truth by which it is. -/
theorem tr_hit : ∀ {l : List PBed} {m : Int} {i : Nat} {x : PBed}, Spans l → lows l ≤ m → m ≤ highs l → l[i]? = some x → 0 < min (m - lows l + x.low) x.high → ∃ t a, Tr l m t ∧ t[i]? = some a ∧ 0 < a
  | [], _, _, _, _, _, _, hx, _ => by simp at hx
  | b :: l, m, 0, x, hs, h1, h2, hx, hc => by
    simp at hx; subst hx
    simp only [lows, highs] at h1 h2 hc
    have hb := hs.2.1
    have hb0 := hs.1
    have h4 := lows_highs hs.2.2
    obtain ⟨y, hy⟩ : ∃ y, y = max (max b.low 1) (m - highs l) := ⟨_, rfl⟩
    obtain ⟨t, ht⟩ := exists_tr l (m - y) hs.2.2 (by omega) (by omega)
    exact ⟨y :: t, y, ⟨by omega, by omega, ht⟩, by simp, by omega⟩
  | b :: l, m, i + 1, x, hs, h1, h2, hx, hc => by
    simp only [lows, highs] at h1 h2 hc
    have hb := hs.2.1
    have hx' : l[i]? = some x := by simpa using hx
    by_cases h : m - b.low ≤ highs l
    · obtain ⟨t, a, ht, ha, hp⟩ := tr_hit (m := m - b.low) hs.2.2 (by omega) h hx' (by omega)
      exact ⟨b.low :: t, a, ⟨by omega, by omega, ht⟩, by simpa using ha, hp⟩
    · have h3 := high_room hs.2.2 hx'
      have h4 := lows_highs hs.2.2
      obtain ⟨t, a, ht, ha, hp⟩ := tr_hit (m := highs l) hs.2.2 h4 (Int.le_refl _) hx' (by omega)
      exact ⟨(m - highs l) :: t, a, ⟨by omega, by omega, by rw [show m - (m - highs l) = highs l by omega]; exact ht⟩, by simpa using ha, hp⟩

theorem spans_of {m : Int} : ∀ {l : List PBed}, Small m l → Spans l
  | [], _ => trivial
  | b :: _, h => ⟨(h b (List.mem_cons_self ..)).1, (h b (List.mem_cons_self ..)).2.1, spans_of fun x hx => h x (List.mem_cons_of_mem _ hx)⟩

theorem dot_cmp : ∀ {t u v : List Int} {δ : Int}, u.length = t.length → v.length = t.length → (∀ (i : Nat) a, t[i]? = some a → 0 ≤ a) →
    (∀ (i : Nat) a x y, t[i]? = some a → u[i]? = some x → v[i]? = some y → 0 < a → x ≤ y + δ) → dot t u ≤ dot t v + δ * total t
  | [], _, _, _, _, _, _, _ => by simp [dot, total]
  | _ :: _, [], _, _, h, _, _, _ => by simp at h
  | _ :: _, _ :: _, [], _, _, h, _, _ => by simp at h
  | t :: ts, u :: us, v :: vs, δ, h1, h2, h0, hc => by
    have ih := dot_cmp (t := ts) (u := us) (v := vs) (δ := δ) (by simpa using h1) (by simpa using h2) (fun i a ha => h0 (i + 1) a (by simpa using ha)) (fun i a x y ha hx hy => hc (i + 1) a x y (by simpa using ha) (by simpa using hx) (by simpa using hy))
    have ht := h0 0 t (by simp)
    have : t * u ≤ t * (v + δ) := by
      by_cases hp : 0 < t
      · exact Int.mul_le_mul_of_nonneg_left (hc 0 t u v (by simp) (by simp) (by simp) hp) ht
      · have : t = 0 := by omega
        simp [this]
    rw [Int.mul_add] at this
    simp only [dot, total, Int.mul_add]
    rw [Int.mul_comm δ t]
    omega

theorem dot_strict : ∀ {t u v : List Int} {δ : Int}, u.length = t.length → v.length = t.length → (∀ (i : Nat) a, t[i]? = some a → 0 ≤ a) →
    (∀ (i : Nat) a x y, t[i]? = some a → u[i]? = some x → v[i]? = some y → 0 < a → x ≤ y + δ) →
    (∃ (i : Nat) (a x y : Int), t[i]? = some a ∧ u[i]? = some x ∧ v[i]? = some y ∧ 0 < a ∧ x < y + δ) → dot t u + 1 ≤ dot t v + δ * total t
  | [], _, _, _, _, _, _, _, he => by obtain ⟨i, a, x, y, h, _⟩ := he; simp at h
  | _ :: _, [], _, _, h, _, _, _, _ => by simp at h
  | _ :: _, _ :: _, [], _, _, h, _, _, _ => by simp at h
  | t :: ts, u :: us, v :: vs, δ, h1, h2, h0, hc, he => by
    have k1 : us.length = ts.length := by simpa using h1
    have k2 : vs.length = ts.length := by simpa using h2
    have k0 : ∀ (i : Nat) a, ts[i]? = some a → 0 ≤ a := fun i a ha => h0 (i + 1) a (by simpa using ha)
    have kc : ∀ (i : Nat) a x y, ts[i]? = some a → us[i]? = some x → vs[i]? = some y → 0 < a → x ≤ y + δ := fun i a x y ha hx hy => hc (i + 1) a x y (by simpa using ha) (by simpa using hx) (by simpa using hy)
    have ht := h0 0 t (by simp)
    obtain ⟨i, a, x, y, ha, hx, hy, hp, hlt⟩ := he
    cases i with
    | zero =>
      simp at ha hx hy; subst ha hx hy
      have ih := dot_cmp k1 k2 k0 kc
      have : t * (u + 1) ≤ t * (v + δ) := Int.mul_le_mul_of_nonneg_left (by omega) ht
      rw [Int.mul_add, Int.mul_add] at this
      simp only [dot, total, Int.mul_add]
      rw [Int.mul_comm δ t]
      omega
    | succ i =>
      have ih := dot_strict k1 k2 k0 kc ⟨i, a, x, y, by simpa using ha, by simpa using hx, by simpa using hy, hp, hlt⟩
      have : t * u ≤ t * (v + δ) := by
        by_cases hp : 0 < t
        · exact Int.mul_le_mul_of_nonneg_left (hc 0 t u v (by simp) (by simp) (by simp) hp) ht
        · have : t = 0 := by omega
          simp [this]
      rw [Int.mul_add] at this
      simp only [dot, total, Int.mul_add]
      rw [Int.mul_comm δ t]
      omega

theorem dot_low : ∀ {t v : List Int} {c : Int}, v.length = t.length → (∀ (i : Nat) a, t[i]? = some a → 0 ≤ a) →
    (∀ (i : Nat) a y, t[i]? = some a → v[i]? = some y → 0 < a → c ≤ y) → c * total t ≤ dot t v
  | [], _, _, _, _, _ => by simp [dot, total]
  | _ :: _, [], _, h, _, _ => by simp at h
  | t :: ts, v :: vs, c, h2, h0, hc => by
    have ih := dot_low (t := ts) (v := vs) (c := c) (by simpa using h2) (fun i a ha => h0 (i + 1) a (by simpa using ha)) (fun i a y ha hy => hc (i + 1) a y (by simpa using ha) (by simpa using hy))
    have ht := h0 0 t (by simp)
    have : t * c ≤ t * v := by
      by_cases hp : 0 < t
      · exact Int.mul_le_mul_of_nonneg_left (hc 0 t v (by simp) (by simp) hp) ht
      · have : t = 0 := by omega
        simp [this]
    simp only [dot, total, Int.mul_add]
    rw [Int.mul_comm c t]
    omega

/-! ### The means by truths -/

theorem le_ediv_iff {a b c : Int} (hc : 0 < c) : a ≤ b / c ↔ c * a ≤ b := by rw [Int.le_ediv_iff_mul_le hc, Int.mul_comm]

section
variable {den : Int} {l : List PBed} {vs : List Int}

/-- The mean is known: no truth hits a bed of which the value is 'never'. -/
theorem mean_nohit {best : Bool} {t : List Int} (hlen : vs.length = l.length) (hm : mean best den l vs ≠ never) (ht : Tr l den t) {i : Nat} {a v : Int} (ha : t[i]? = some a) (hv : vs[i]? = some v) (hp : 0 < a) : v ≠ never := by
  intro e
  subst e
  have hi : i < l.length := by rw [← hlen]; exact (List.getElem?_eq_some_iff.1 hv).1
  have h1 := ht.get (List.getElem?_eq_getElem hi) ha
  have : hit (den - lows l) l vs = true := (hit_iff hlen).2 ⟨i, l[i], never, List.getElem?_eq_getElem hi, hv, rfl, by omega⟩
  exact hm (by simp only [mean, this, if_true])

theorem worst_ge {t : List Int} (hok : AimOk den l) (hd : 1 ≤ den) (hlen : vs.length = l.length) (hm : mean false den l vs ≠ never) (ht : Tr l den t) : dot t (vs.map tame) ≤ den * mean false den l vs := by
  have hh : hit (den - lows l) l vs = false := by
    rw [Bool.eq_false_iff]; intro h; exact hm (by simp only [mean, h, if_true])
  have hcan := Can.perm (sortD_perm (rooms l (vs.map tame))).symm (tr_can (us := vs.map tame) (by simpa using hlen) ht)
  have := greedy_top (sortD_desc _) (by have := hok.lows; omega) hcan
  simp only [mean, hh, Bool.false_eq_true, if_false]
  have h2 := Int.lt_ediv_add_one_mul_self (base l (vs.map tame) + greedy (den - lows l) (sortD (rooms l (vs.map tame))) + (den - 1)) (show 0 < den by omega)
  rw [Int.add_mul, Int.mul_comm] at h2
  omega

theorem worst_is (hok : AimOk den l) (hd : 1 ≤ den) (hlen : vs.length = l.length) (hm : mean false den l vs ≠ never) : ∃ t, Tr l den t ∧ den * mean false den l vs ≤ dot t (vs.map tame) + (den - 1) := by
  have hh : hit (den - lows l) l vs = false := by
    rw [Bool.eq_false_iff]; intro h; exact hm (by simp only [mean, h, if_true])
  have h0 := hok.lows
  have h1 := hok.highs
  have hC : Caps (sortD (rooms l (vs.map tame))) := fun q hq => Caps_rooms hok.small q ((sortD_perm _).mem_iff.1 hq)
  have hcaps : caps (sortD (rooms l (vs.map tame))) = highs l - lows l := by rw [caps_perm (sortD_perm _), caps_rooms (by simpa using hlen)]
  obtain ⟨t, ht, hdt⟩ := can_tr (us := vs.map tame) (by simpa using hlen) (Can.perm (sortD_perm _) (greedy_can hC (m := den - lows l) (by omega) (by omega)))
  refine ⟨t, ht, ?_⟩
  simp only [mean, hh, Bool.false_eq_true, if_false, hdt]
  exact Int.mul_ediv_self_le (by omega)

theorem best_le {t : List Int} (hok : AimOk den l) (hd : 1 ≤ den) (hlen : vs.length = l.length) (hm : mean true den l vs ≠ never) (ht : Tr l den t) : den * mean true den l vs ≤ dot t (vs.map tame) := by
  have hh : hit (den - lows l) l vs = false := by
    rw [Bool.eq_false_iff]; intro h; exact hm (by simp only [mean, h, if_true])
  have hcan := Can.perm (sortA_perm (rooms l (vs.map tame))).symm (tr_can (us := vs.map tame) (by simpa using hlen) ht)
  have := greedy_bot (sortA_asc _) (by have := hok.lows; omega) hcan
  simp only [mean, hh, Bool.false_eq_true, if_false, if_true]
  have h2 := Int.mul_ediv_self_le (x := base l (vs.map tame) + greedy (den - lows l) (sortA (rooms l (vs.map tame)))) (k := den) (by omega)
  omega

theorem best_is (hok : AimOk den l) (hd : 1 ≤ den) (hlen : vs.length = l.length) (hm : mean true den l vs ≠ never) : ∃ t, Tr l den t ∧ dot t (vs.map tame) ≤ den * mean true den l vs + (den - 1) := by
  have hh : hit (den - lows l) l vs = false := by
    rw [Bool.eq_false_iff]; intro h; exact hm (by simp only [mean, h, if_true])
  have h0 := hok.lows
  have h1 := hok.highs
  have hC : Caps (sortA (rooms l (vs.map tame))) := fun q hq => Caps_rooms hok.small q ((sortA_perm _).mem_iff.1 hq)
  have hcaps : caps (sortA (rooms l (vs.map tame))) = highs l - lows l := by rw [caps_perm (sortA_perm _), caps_rooms (by simpa using hlen)]
  obtain ⟨t, ht, hdt⟩ := can_tr (us := vs.map tame) (by simpa using hlen) (Can.perm (sortA_perm _) (greedy_can hC (m := den - lows l) (by omega) (by omega)))
  refine ⟨t, ht, ?_⟩
  simp only [mean, hh, Bool.false_eq_true, if_false, if_true, hdt]
  have h2 := Int.lt_ediv_add_one_mul_self (base l (vs.map tame) + greedy (den - lows l) (sortA (rooms l (vs.map tame)))) (show 0 < den by omega)
  rw [Int.add_mul, Int.mul_comm] at h2
  omega

/-- The mean is 'never': some truth hits a bed of that value. -/
theorem mean_hit {best : Bool} (hok : AimOk den l) (hd : 1 ≤ den) (hlen : vs.length = l.length) (hv : ∀ v ∈ vs, 0 ≤ v ∧ v ≤ never) (hm : mean best den l vs = never) : ∃ (t : List Int) (i : Nat) (a : Int), Tr l den t ∧ t[i]? = some a ∧ 0 < a ∧ vs[i]? = some never := by
  have h0 := hok.lows
  have h1 := hok.highs
  by_cases hh : hit (den - lows l) l vs = true
  · obtain ⟨i, x, v, hx, hvi, rfl, hc⟩ := (hit_iff hlen).1 hh
    obtain ⟨t, a, ht, ha, hp⟩ := tr_hit (spans_of hok.small) h0 h1 hx hc
    exact ⟨t, i, a, ht, ha, hp, hvi⟩
  · exfalso
    have hv' : ∀ u ∈ vs.map tame, 0 ≤ u ∧ u ≤ never - 1 := by
      intro u hu
      obtain ⟨t, ht, rfl⟩ := List.mem_map.1 hu
      exact tame_lt (hv t ht)
    simp only [mean, hh] at hm
    have hc0 : (0 : Int) ≤ never - 1 := by unfold never; omega
    cases best with
    | true =>
      simp only [Bool.false_eq_true, if_false, if_true] at hm
      have := sum_bd hc0 hok.small (by simpa using hlen) h0 h1 hv' (sortA_perm _)
      have := Int.ediv_le_ediv (c := den) (by omega) this.2
      rw [Int.mul_ediv_cancel_left _ (by omega)] at this
      omega
    | false =>
      simp only [Bool.false_eq_true, if_false] at hm
      have := sum_bd hc0 hok.small (by simpa using hlen) h0 h1 hv' (sortD_perm _)
      have h2 : base l (vs.map tame) + greedy (den - lows l) (sortD (rooms l (vs.map tame))) + (den - 1) ≤ (den - 1) + den * (never - 1) := by omega
      have h3 := Int.ediv_le_ediv (c := den) (by omega) h2
      have h4 : (den - 1 + den * (never - 1)) / den = never - 1 := by
        have hd0 : den ≠ 0 := by omega
        rw [Int.add_mul_ediv_left _ _ hd0, Int.ediv_eq_zero_of_lt (show 0 ≤ den - 1 by omega) (show den - 1 < den by omega)]
        omega
      omega

theorem mean_tame {best : Bool} (hok : AimOk den l) (hd : 1 ≤ den) (hlen : vs.length = l.length) (hv : ∀ v ∈ vs, 0 ≤ v ∧ v < never) : mean best den l vs ≠ never := by
  intro h
  obtain ⟨t, i, a, _, _, _, hi⟩ := mean_hit hok hd hlen (fun v h => ⟨(hv v h).1, Int.le_of_lt (hv v h).2⟩) h
  have := (hv _ (List.mem_of_getElem? hi)).2
  omega

end

/-! ### Values compared -/

/-- x is known where y is, and then no more than d above it. -/
def Le (d x y : Int) : Prop := y = never ∨ (x ≠ never ∧ x ≤ y + d)

section
variable {den : Int} {l1 l2 : List PBed} {v1 v2 : List Int}

theorem map_get {f : Int → Int} {l : List Int} {i : Nat} {x : Int} (h : l[i]? = some x) : (l.map f)[i]? = some (f x) := by simp [h]
theorem get_map {f : Int → Int} {l : List Int} {i : Nat} {x : Int} (h : (l.map f)[i]? = some x) : ∃ y, l[i]? = some y ∧ f y = x := by
  simp only [List.getElem?_map, Option.map_eq_some_iff] at h
  exact h

theorem tame_of {v : Int} (h : v ≠ never) : tame v = v := by simp [tame, h]

/-- What two lists of values come to by one truth. -/
theorem dot_le {d : Int} {t : List Int} (h1 : v1.length = t.length) (h2 : v2.length = t.length) (h0 : ∀ (i : Nat) a, t[i]? = some a → 0 ≤ a)
    (hn : ∀ (i : Nat) a y, t[i]? = some a → v2[i]? = some y → 0 < a → y ≠ never) (hc : ∀ (i : Nat) x y, v1[i]? = some x → v2[i]? = some y → Le d x y) :
    dot t (v1.map tame) ≤ dot t (v2.map tame) + d * total t :=
  dot_cmp (by simpa using h1) (by simpa using h2) h0 fun i a x y ha hx hy hp => by
    obtain ⟨x, hx', rfl⟩ := get_map hx
    obtain ⟨y, hy', rfl⟩ := get_map hy
    have hy0 := hn i a y ha hy' hp
    rcases hc i x y hx' hy' with h | ⟨h, h'⟩
    · exact absurd h hy0
    · rw [tame_of h, tame_of hy0]; exact h'

theorem cancel_le {den a b c d : Int} (hd : 1 ≤ den) (h : den * a ≤ den * b + c * den + d) (hdd : d < den) : a ≤ b + c := by
  have : den * a < den * (b + c + 1) := by rw [Int.mul_add, Int.mul_add, Int.mul_comm den c]; omega
  have := Int.lt_of_mul_lt_mul_left this (by omega)
  omega

theorem worst_worst {d : Int} (ok1 : AimOk den l1) (ok2 : AimOk den l2) (hd : 1 ≤ den) (hl1 : v1.length = l1.length) (hl2 : v2.length = l2.length) (hl : l1.length = l2.length) (hb1 : ∀ v ∈ v1, 0 ≤ v ∧ v ≤ never)
    (hT : ∀ t, Tr l1 den t → Tr l2 den t) (hc : ∀ (i : Nat) x y, v1[i]? = some x → v2[i]? = some y → Le d x y) : Le d (mean false den l1 v1) (mean false den l2 v2) := by
  by_cases hm : mean false den l2 v2 = never
  · exact .inl hm
  right
  have hm1 : mean false den l1 v1 ≠ never := by
    intro h
    obtain ⟨t, i, a, ht, ha, hp, hv⟩ := mean_hit ok1 hd hl1 hb1 h
    have hi : i < v2.length := by rw [hl2, ← hl, ← hl1]; exact (List.getElem?_eq_some_iff.1 hv).1
    have hy := List.getElem?_eq_getElem hi
    have hn := mean_nohit hl2 hm (hT t ht) ha hy hp
    rcases hc i _ _ hv hy with h | ⟨h, _⟩
    · exact hn h
    · exact h rfl
  refine ⟨hm1, ?_⟩
  obtain ⟨t, ht, h1⟩ := worst_is ok1 hd hl1 hm1
  have ht2 := hT t ht
  have h2 := worst_ge ok2 hd hl2 hm ht2
  have h3 := dot_le (d := d) (t := t) (v1 := v1) (v2 := v2) (by rw [hl1, ht.length]) (by rw [hl2, ht2.length]) (fun i a ha => ht.nonneg ok1.small ha) (fun i a y ha hy hp => mean_nohit hl2 hm ht2 ha hy hp) hc
  rw [ht.total] at h3
  exact cancel_le hd (d := den - 1) (by omega) (by omega)

theorem best_best {d : Int} (ok1 : AimOk den l1) (ok2 : AimOk den l2) (hd : 1 ≤ den) (hl1 : v1.length = l1.length) (hl2 : v2.length = l2.length) (hb1 : ∀ v ∈ v1, 0 ≤ v ∧ v < never)
    (hT : ∀ t, Tr l2 den t → Tr l1 den t) (hc : ∀ (i : Nat) x y, v1[i]? = some x → v2[i]? = some y → Le d x y) : Le d (mean true den l1 v1) (mean true den l2 v2) := by
  by_cases hm : mean true den l2 v2 = never
  · exact .inl hm
  right
  have hm1 : mean true den l1 v1 ≠ never := mean_tame ok1 hd hl1 hb1
  refine ⟨hm1, ?_⟩
  obtain ⟨t, ht2, h1⟩ := best_is ok2 hd hl2 hm
  have ht := hT t ht2
  have h2 := best_le ok1 hd hl1 hm1 ht
  have h3 := dot_le (d := d) (t := t) (v1 := v1) (v2 := v2) (by rw [hl1, ht.length]) (by rw [hl2, ht2.length]) (fun i a ha => ht.nonneg ok1.small ha) (fun i a y ha hy hp => mean_nohit hl2 hm ht2 ha hy hp) hc
  rw [ht.total] at h3
  exact cancel_le hd (d := den - 1) (by omega) (by omega)

/-- x < y + d, or y is at least c. -/
def Lt (d c x y : Int) : Prop := y = never ∨ (x ≠ never ∧ (x < y + d ∨ (x ≤ y + d ∧ c ≤ y)))

theorem best_worst {d c : Int} (ok1 : AimOk den l1) (ok2 : AimOk den l2) (hd : 1 ≤ den) (hl1 : v1.length = l1.length) (hl2 : v2.length = l2.length) (hb1 : ∀ v ∈ v1, 0 ≤ v ∧ v < never)
    (hT : ∃ t, Tr l1 den t ∧ Tr l2 den t) (hc : ∀ (i : Nat) x y, v1[i]? = some x → v2[i]? = some y → Lt d c x y) : Lt d c (mean true den l1 v1) (mean false den l2 v2) := by
  by_cases hm : mean false den l2 v2 = never
  · exact .inl hm
  right
  have hm1 : mean true den l1 v1 ≠ never := mean_tame ok1 hd hl1 hb1
  refine ⟨hm1, ?_⟩
  obtain ⟨t, ht, ht2⟩ := hT
  have h1 := best_le ok1 hd hl1 hm1 ht
  have h2 := worst_ge ok2 hd hl2 hm ht2
  have k1 : (v1.map tame).length = t.length := by simpa [ht.length] using hl1
  have k2 : (v2.map tame).length = t.length := by simpa [ht2.length] using hl2
  have k0 : ∀ (i : Nat) a, t[i]? = some a → 0 ≤ a := fun i a ha => ht.nonneg ok1.small ha
  have key : ∀ (i : Nat) a x y, t[i]? = some a → (v1.map tame)[i]? = some x → (v2.map tame)[i]? = some y → 0 < a → x < y + d ∨ (x ≤ y + d ∧ c ≤ y) := by
    intro i a x y ha hx hy hp
    obtain ⟨x, hx', rfl⟩ := get_map hx
    obtain ⟨y, hy', rfl⟩ := get_map hy
    have hy0 := mean_nohit hl2 hm ht2 ha hy' hp
    rcases hc i x y hx' hy' with h | ⟨h, h'⟩
    · exact absurd h hy0
    · rw [tame_of h, tame_of hy0]; exact h'
  have h3 := dot_cmp (δ := d) k1 k2 k0 (fun i a x y ha hx hy hp => by have := key i a x y ha hx hy hp; omega)
  rw [ht.total] at h3
  by_cases he : ∃ (i : Nat) (a x y : Int), t[i]? = some a ∧ (v1.map tame)[i]? = some x ∧ (v2.map tame)[i]? = some y ∧ 0 < a ∧ x < y + d
  · left
    have h4 := dot_strict (δ := d) k1 k2 k0 (fun i a x y ha hx hy hp => by have := key i a x y ha hx hy hp; omega) he
    rw [ht.total] at h4
    have : den * mean true den l1 v1 < den * (mean false den l2 v2 + d) := by rw [Int.mul_add, Int.mul_comm den d]; omega
    exact Int.lt_of_mul_lt_mul_left this (by omega)
  · right
    refine ⟨cancel_le hd (d := 0) (by omega) (by omega), ?_⟩
    have h5 := dot_low (c := c) k2 k0 (fun i a y ha hy hp => by
      have hi : i < (v1.map tame).length := by rw [k1]; exact (List.getElem?_eq_some_iff.1 ha).1
      have hx := List.getElem?_eq_getElem hi
      rcases key i a _ y ha hx hy hp with h | h
      · exact absurd ⟨i, a, _, y, ha, hx, hy, hp, h⟩ he
      · exact h.2)
    rw [ht.total, Int.mul_comm] at h5
    exact Int.le_of_mul_le_mul_left (show den * c ≤ den * mean false den l2 v2 by omega) (by omega)

end

end AimP
