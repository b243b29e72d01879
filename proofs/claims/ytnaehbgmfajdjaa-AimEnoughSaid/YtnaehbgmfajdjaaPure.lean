/- Plain numbers and lists of chapter 8 (where to aim): truths of an aim, the greatest and the least mean, values of positions, the two tables; no program in sight. -/
namespace AimP

/-- A bed of an aim: its code, and how many darts land there at least and at most. -/
structure PBed where
  bed : Int
  low : Int
  high : Int

def never : Int := 2000000000
def whole : Int := 1000000
def maxV : Int := 1000000000

def lows : List PBed → Int
  | [] => 0
  | b :: l => b.low + lows l

def highs : List PBed → Int
  | [] => 0
  | b :: l => b.high + highs l

/-- A truth: one number of each span, and their sum. -/
def Tr : List PBed → Int → List Int → Prop
  | [], m, [] => m = 0
  | b :: l, m, t :: ts => b.low ≤ t ∧ t ≤ b.high ∧ Tr l (m - t) ts
  | _, _, _ => False

def dot : List Int → List Int → Int
  | t :: ts, v :: vs => t * v + dot ts vs
  | _, _ => 0

/-- The spans are in order. -/
def Spans : List PBed → Prop
  | [] => True
  | b :: l => 0 ≤ b.low ∧ b.low ≤ b.high ∧ Spans l

theorem Tr.length : ∀ {l : List PBed} {m : Int} {t : List Int}, Tr l m t → t.length = l.length
  | [], _, [], _ => rfl
  | [], _, _ :: _, h => by simp [Tr] at h
  | _ :: _, _, [], h => by simp [Tr] at h
  | _ :: l, _, _ :: _, h => by simp [Tr.length h.2.2]

theorem Tr.bounds : ∀ {l : List PBed} {m : Int} {t : List Int}, Tr l m t → lows l ≤ m ∧ m ≤ highs l
  | [], _, [], h => by simp [Tr] at h; subst h; simp [lows, highs]
  | [], _, _ :: _, h => by simp [Tr] at h
  | _ :: _, _, [], h => by simp [Tr] at h
  | b :: l, m, t :: ts, h => by
    have := Tr.bounds h.2.2
    have h1 := h.1
    have h2 := h.2.1
    simp only [lows, highs]; omega

/-- A truth by the orders of the spans themselves: what is missing goes to the first beds. -/
theorem exists_tr : ∀ (l : List PBed) (m : Int), Spans l → lows l ≤ m → m ≤ highs l → ∃ t, Tr l m t
  | [], m, _, h1, h2 => ⟨[], by simp only [lows, highs, Tr] at *; omega⟩
  | b :: l, m, hs, h1, h2 => by
    have hh : lows l ≤ highs l := by
      clear h1 h2
      have := hs.2.2
      clear hs
      induction l with
      | nil => simp [lows, highs]
      | cons c l ih => have := this; simp only [lows, highs]; have := ih this.2.2; have := ‹Spans (c :: l)›.2.1; omega
    simp only [lows, highs] at h1 h2
    have hb := hs.2.1
    by_cases h : m - b.low ≤ highs l
    · obtain ⟨t, ht⟩ := exists_tr l (m - b.low) hs.2.2 (by omega) h
      exact ⟨b.low :: t, by omega, by omega, ht⟩
    · obtain ⟨t, ht⟩ := exists_tr l (highs l) hs.2.2 hh (by omega)
      exact ⟨(m - highs l) :: t, by omega, by omega, by rw [show m - (m - highs l) = highs l by omega]; exact ht⟩

/-- Numbers that are at least 0, at most the caps, and have a sum: a truth above the lows. -/
def Ex : List (Int × Int) → Int → List Int → Prop
  | [], m, [] => m = 0
  | p :: l, m, x :: xs => 0 ≤ x ∧ x ≤ p.2 ∧ Ex l (m - x) xs
  | _, _, _ => False

/-- Value and room of each bed. -/
def rooms : List PBed → List Int → List (Int × Int)
  | b :: l, v :: vs => (v, b.high - b.low) :: rooms l vs
  | _, _ => []

def base : List PBed → List Int → Int
  | b :: l, v :: vs => b.low * v + base l vs
  | _, _ => 0

def dotX : List Int → List (Int × Int) → Int
  | x :: xs, p :: l => x * p.1 + dotX xs l
  | _, _ => 0

def caps : List (Int × Int) → Int
  | [] => 0
  | p :: l => p.2 + caps l

/-- What is missing is given in order. -/
def greedy : Int → List (Int × Int) → Int
  | _, [] => 0
  | m, p :: l => min m p.2 * p.1 + greedy (m - min m p.2) l

/-- Whether a sum can be reached. -/
def Can (l : List (Int × Int)) (m s : Int) : Prop := ∃ x, Ex l m x ∧ dotX x l = s

theorem Can.nil {m s : Int} : Can [] m s ↔ m = 0 ∧ s = 0 := by
  constructor
  · rintro ⟨x, hx, hs⟩
    cases x with
    | nil => exact ⟨hx, by simpa [dotX] using hs.symm⟩
    | cons _ _ => simp [Ex] at hx
  · rintro ⟨rfl, rfl⟩
    exact ⟨[], rfl, rfl⟩

theorem Can.cons {p : Int × Int} {l : List (Int × Int)} {m s : Int} : Can (p :: l) m s ↔ ∃ x, 0 ≤ x ∧ x ≤ p.2 ∧ Can l (m - x) (s - x * p.1) := by
  constructor
  · rintro ⟨x, hx, hs⟩
    cases x with
    | nil => simp [Ex] at hx
    | cons x xs => exact ⟨x, hx.1, hx.2.1, xs, hx.2.2, by simp only [dotX] at hs; omega⟩
  · rintro ⟨x, h0, h1, xs, hx, hs⟩
    exact ⟨x :: xs, ⟨h0, h1, hx⟩, by simp only [dotX]; omega⟩

theorem Can.perm {l l' : List (Int × Int)} (h : l.Perm l') : ∀ {m s : Int}, Can l m s → Can l' m s := by
  induction h with
  | nil => exact fun h => h
  | cons p _ ih => intro m s h; obtain ⟨x, h0, h1, h2⟩ := Can.cons.1 h; exact Can.cons.2 ⟨x, h0, h1, ih h2⟩
  | swap p q l =>
    intro m s h
    obtain ⟨x, h0, h1, h2⟩ := Can.cons.1 h
    obtain ⟨y, k0, k1, k2⟩ := Can.cons.1 h2
    refine Can.cons.2 ⟨y, k0, k1, Can.cons.2 ⟨x, h0, h1, ?_⟩⟩
    rw [show m - y - x = m - x - y by omega, show s - y * p.1 - x * q.1 = s - x * q.1 - y * p.1 by omega]
    exact k2
  | trans _ _ ih1 ih2 => exact fun h => ih2 (ih1 h)

def Caps (l : List (Int × Int)) : Prop := ∀ p ∈ l, 0 ≤ p.2

theorem caps_nonneg : ∀ {l : List (Int × Int)}, Caps l → 0 ≤ caps l
  | [], _ => by simp [caps]
  | p :: l, h => by
    have := caps_nonneg (l := l) (fun q hq => h q (List.mem_cons_of_mem _ hq))
    have := h p (List.mem_cons_self ..)
    simp only [caps]; omega

/-- What is given in order can be given. -/
theorem greedy_can : ∀ {l : List (Int × Int)} {m : Int}, Caps l → 0 ≤ m → m ≤ caps l → Can l m (greedy m l)
  | [], m, _, h0, h1 => Can.nil.2 ⟨by simp only [caps] at h1; omega, rfl⟩
  | p :: l, m, hc, h0, h1 => by
    have hp := hc p (List.mem_cons_self ..)
    have hl := caps_nonneg (l := l) (fun q hq => hc q (List.mem_cons_of_mem _ hq))
    simp only [caps] at h1
    refine Can.cons.2 ⟨min m p.2, by omega, by omega, ?_⟩
    rw [show greedy m (p :: l) - min m p.2 * p.1 = greedy (m - min m p.2) l by simp only [greedy]; omega]
    exact greedy_can (fun q hq => hc q (List.mem_cons_of_mem _ hq)) (by omega) (by omega)

def Desc : List (Int × Int) → Prop
  | [] => True
  | p :: l => (∀ q ∈ l, q.1 ≤ p.1) ∧ Desc l

def Asc : List (Int × Int) → Prop
  | [] => True
  | p :: l => (∀ q ∈ l, p.1 ≤ q.1) ∧ Asc l

/-- Moving d darts from wherever they are to the bed ahead of all others makes the sum no smaller: any m - x of the rest. -/
theorem can_le_top : ∀ {l : List (Int × Int)} {m s c : Int}, (∀ q ∈ l, q.1 ≤ c) → Can l m s → s ≤ m * c
  | [], m, s, c, _, h => by obtain ⟨rfl, rfl⟩ := Can.nil.1 h; simp
  | p :: l, m, s, c, hc, h => by
    obtain ⟨x, h0, _, h2⟩ := Can.cons.1 h
    have h3 := can_le_top (fun q hq => hc q (List.mem_cons_of_mem _ hq)) h2
    have h4 := hc p (List.mem_cons_self ..)
    have h5 : x * p.1 ≤ x * c := Int.mul_le_mul_of_nonneg_left h4 h0
    rw [Int.sub_mul] at h3
    omega

theorem can_ge_bot : ∀ {l : List (Int × Int)} {m s c : Int}, (∀ q ∈ l, c ≤ q.1) → Can l m s → m * c ≤ s
  | [], m, s, c, _, h => by obtain ⟨rfl, rfl⟩ := Can.nil.1 h; simp
  | p :: l, m, s, c, hc, h => by
    obtain ⟨x, h0, _, h2⟩ := Can.cons.1 h
    have h3 := can_ge_bot (fun q hq => hc q (List.mem_cons_of_mem _ hq)) h2
    have h4 := hc p (List.mem_cons_self ..)
    have h5 : x * c ≤ x * p.1 := Int.mul_le_mul_of_nonneg_left h4 h0
    rw [Int.sub_mul] at h3
    omega

/-- With d darts fewer in the list the sum can be smaller by no more than d times the top. -/
theorem can_less : ∀ {l : List (Int × Int)} {m s c d : Int}, (∀ q ∈ l, q.1 ≤ c) → 0 ≤ d → d ≤ m → Can l m s → ∃ s', Can l (m - d) s' ∧ s ≤ s' + d * c
  | [], m, s, c, d, _, h0, h1, h => by
    obtain ⟨rfl, rfl⟩ := Can.nil.1 h
    obtain rfl : d = 0 := by omega
    exact ⟨0, Can.nil.2 ⟨by omega, rfl⟩, by simp⟩
  | p :: l, m, s, c, d, hc, h0, h1, h => by
    obtain ⟨x, k0, k1, k2⟩ := Can.cons.1 h
    have hp := hc p (List.mem_cons_self ..)
    by_cases hx : d ≤ x
    · refine ⟨s - d * p.1, Can.cons.2 ⟨x - d, by omega, by omega, ?_⟩, ?_⟩
      · rw [show m - d - (x - d) = m - x by omega, show s - d * p.1 - (x - d) * p.1 = s - x * p.1 by rw [Int.sub_mul]; omega]
        exact k2
      · have : d * p.1 ≤ d * c := Int.mul_le_mul_of_nonneg_left hp h0
        omega
    · have hm : 0 ≤ m - x := by
        obtain ⟨xs, hxs, _⟩ := k2
        clear h k1
        have : ∀ (l : List (Int × Int)) (n : Int) (xs : List Int), Ex l n xs → 0 ≤ n := by
          intro l
          induction l with
          | nil => intro n xs h; cases xs with
            | nil => simp only [Ex] at h; omega
            | cons _ _ => simp [Ex] at h
          | cons q l ih => intro n xs h; cases xs with
            | nil => simp [Ex] at h
            | cons y ys => have := ih _ _ h.2.2; have := h.1; omega
        exact this _ _ _ hxs
      obtain ⟨s', hs, hle⟩ := can_less (d := d - x) (fun q hq => hc q (List.mem_cons_of_mem _ hq)) (by omega) (by omega) k2
      refine ⟨s', Can.cons.2 ⟨0, by omega, by omega, ?_⟩, ?_⟩
      · rw [show m - d - 0 = m - x - (d - x) by omega, show s' - 0 * p.1 = s' by simp]
        exact hs
      · have h5 : x * p.1 ≤ x * c := Int.mul_le_mul_of_nonneg_left hp k0
        rw [Int.sub_mul] at hle
        omega

theorem greedy_top : ∀ {l : List (Int × Int)} {m s : Int}, Desc l → 0 ≤ m → Can l m s → s ≤ greedy m l
  | [], m, s, _, _, h => by obtain ⟨rfl, rfl⟩ := Can.nil.1 h; simp [greedy]
  | p :: l, m, s, hd, h0, h => by
    obtain ⟨x, k0, k1, k2⟩ := Can.cons.1 h
    have hx : x ≤ m := by
      obtain ⟨xs, hxs, _⟩ := k2
      have : ∀ (l : List (Int × Int)) (n : Int) (xs : List Int), Ex l n xs → 0 ≤ n := by
        intro l
        induction l with
        | nil => intro n xs h; cases xs with
          | nil => simp only [Ex] at h; omega
          | cons _ _ => simp [Ex] at h
        | cons q l ih => intro n xs h; cases xs with
          | nil => simp [Ex] at h
          | cons y ys => have := ih _ _ h.2.2; have := h.1; omega
      have := this _ _ _ hxs
      omega
    obtain ⟨s', hs, hle⟩ := can_less (d := min m p.2 - x) hd.1 (by omega) (by omega) k2
    rw [show m - x - (min m p.2 - x) = m - min m p.2 by omega] at hs
    have h3 := greedy_top hd.2 (by omega) hs
    simp only [greedy]
    have h4 : (min m p.2 - x) * p.1 = min m p.2 * p.1 - x * p.1 := Int.sub_mul ..
    omega

def neg : List (Int × Int) → List (Int × Int) := List.map fun p => (-p.1, p.2)

theorem greedy_neg : ∀ {l : List (Int × Int)} {m : Int}, greedy m (neg l) = - greedy m l
  | [], _ => rfl
  | p :: l, m => by
    have := greedy_neg (l := l) (m := m - min m p.2)
    simp only [neg, List.map_cons, greedy] at *
    rw [this, Int.mul_neg]; omega

theorem can_neg : ∀ {l : List (Int × Int)} {m s : Int}, Can l m s → Can (neg l) m (-s)
  | [], _, _, h => by obtain ⟨rfl, rfl⟩ := Can.nil.1 h; exact Can.nil.2 ⟨rfl, rfl⟩
  | p :: l, m, s, h => by
    obtain ⟨x, h0, h1, h2⟩ := Can.cons.1 h
    refine Can.cons.2 ⟨x, h0, h1, ?_⟩
    have := can_neg h2
    simp only [Int.mul_neg]
    rw [show -s - -(x * p.1) = -(s - x * p.1) by omega]
    exact this

theorem asc_neg : ∀ {l : List (Int × Int)}, Asc l → Desc (neg l)
  | [], _ => trivial
  | p :: l, h => ⟨by
      intro q hq
      simp only [List.mem_map] at hq
      obtain ⟨r, hr, rfl⟩ := hq
      have := h.1 r hr
      show -r.1 ≤ -p.1
      omega, asc_neg h.2⟩

theorem greedy_bot {l : List (Int × Int)} {m s : Int} (hd : Asc l) (h0 : 0 ≤ m) (h : Can l m s) : greedy m l ≤ s := by
  have := greedy_top (asc_neg hd) h0 (can_neg h)
  rw [greedy_neg] at this
  omega

/-- Two orders in which no value is behind a greater one come to the same. -/
theorem greedy_perm_desc {l l' : List (Int × Int)} {m : Int} (hp : l.Perm l') (hc : Caps l) (h : Desc l) (h' : Desc l') (h0 : 0 ≤ m) (h1 : m ≤ caps l) : greedy m l = greedy m l' := by
  have hc' : Caps l' := fun q hq => hc q (hp.mem_iff.2 hq)
  have h1' : m ≤ caps l' := by
    have : caps l = caps l' := by
      clear h0 h1 h h' hc hc'
      induction hp with
      | nil => rfl
      | cons _ _ ih => simp only [caps, ih]
      | swap _ _ _ => simp only [caps]; omega
      | trans _ _ a b => exact a.trans b
    omega
  have a := greedy_top h' h0 (Can.perm hp (greedy_can hc h0 h1))
  have b := greedy_top h h0 (Can.perm hp.symm (greedy_can hc' h0 h1'))
  omega

theorem greedy_perm_asc {l l' : List (Int × Int)} {m : Int} (hp : l.Perm l') (hc : Caps l) (h : Asc l) (h' : Asc l') (h0 : 0 ≤ m) (h1 : m ≤ caps l) : greedy m l = greedy m l' := by
  have hc' : Caps l' := fun q hq => hc q (hp.mem_iff.2 hq)
  have h1' : m ≤ caps l' := by
    have : caps l = caps l' := by
      clear h0 h1 h h' hc hc'
      induction hp with
      | nil => rfl
      | cons _ _ ih => simp only [caps, ih]
      | swap _ _ _ => simp only [caps]; omega
      | trans _ _ a b => exact a.trans b
    omega
  have a := greedy_bot h' h0 (Can.perm hp (greedy_can hc h0 h1))
  have b := greedy_bot h h0 (Can.perm hp.symm (greedy_can hc' h0 h1'))
  omega

end AimP

namespace AimP

/-! ### Beds -/

def score (b : Int) : Int := b / 100 * (b % 100)
def lowest (g : Int) : Int := if g = 0 then 1 else 2
def opens (b g : Int) : Bool := if g = 1 then b / 100 == 2 else if g = 2 then decide (2 ≤ b / 100) else b != 0

def Small (m : Int) (l : List PBed) : Prop := ∀ x ∈ l, 0 ≤ x.low ∧ x.low ≤ x.high ∧ x.high ≤ m

/-- The sum of the Lows of the first beds, without one bed. -/
def lowsEx (l : List PBed) (i : Nat) : Nat → Int
  | 0 => 0
  | j + 1 => lowsEx l i j + if j = i then 0 else (l[j]?.map PBed.low).getD 0

theorem lowsEx_bd (l : List PBed) (m : Int) (hs : Small m l) (hm : 0 ≤ m) (i : Nat) : ∀ j, 0 ≤ lowsEx l i j ∧ lowsEx l i j ≤ j * m
  | 0 => by simp [lowsEx]
  | j + 1 => by
    have ih := lowsEx_bd l m hs hm i j
    simp only [lowsEx]
    rw [show ((j + 1 : Nat) : Int) * m = j * m + m by rw [Int.natCast_add, Int.add_mul]; simp]
    split
    · omega
    · cases h : l[j]? with
      | none => simp; omega
      | some x => have := hs x (List.mem_of_getElem? h); simp; omega

end AimP

namespace AimP

/-! ### The mean of values by one side of an aim's truths -/

/-- Whether a bed that may be hit has the value 'never': d is what is missing when each bed has its Low. -/
def hit (d : Int) : List PBed → List Int → Bool
  | b :: l, v :: vs => (v == never && decide (0 < min (d + b.low) b.high)) || hit d l vs
  | _, _ => false

def tame (v : Int) : Int := if v = never then 0 else v

def insD (p : Int × Int) : List (Int × Int) → List (Int × Int)
  | [] => [p]
  | q :: l => if q.1 ≤ p.1 then p :: q :: l else q :: insD p l

def sortD : List (Int × Int) → List (Int × Int)
  | [] => []
  | p :: l => insD p (sortD l)

def insA (p : Int × Int) : List (Int × Int) → List (Int × Int)
  | [] => [p]
  | q :: l => if p.1 ≤ q.1 then p :: q :: l else q :: insA p l

def sortA : List (Int × Int) → List (Int × Int)
  | [] => []
  | p :: l => insA p (sortA l)

/-- The mean by a side (best: the least one, rounded down; else: the greatest one, rounded up). -/
def mean (best : Bool) (den : Int) (l : List PBed) (vs : List Int) : Int :=
  if hit (den - lows l) l vs then never
  else
    let us := vs.map tame
    let s := base l us + greedy (den - lows l) (if best then sortA (rooms l us) else sortD (rooms l us))
    if best then s / den else (s + (den - 1)) / den

theorem caps_perm {l l' : List (Int × Int)} (hp : l.Perm l') : caps l = caps l' := by
  induction hp with
  | nil => rfl
  | cons _ _ ih => simp only [caps, ih]
  | swap _ _ _ => simp only [caps]; omega
  | trans _ _ a b => exact a.trans b

theorem insD_perm (p : Int × Int) : ∀ l, (insD p l).Perm (p :: l)
  | [] => .refl _
  | q :: l => by
    simp only [insD]
    split
    · exact .refl _
    · exact ((insD_perm p l).cons q).trans (.swap ..)

theorem sortD_perm : ∀ l, (sortD l).Perm l
  | [] => .refl _
  | p :: l => (insD_perm p _).trans ((sortD_perm l).cons p)

theorem insA_perm (p : Int × Int) : ∀ l, (insA p l).Perm (p :: l)
  | [] => .refl _
  | q :: l => by
    simp only [insA]
    split
    · exact .refl _
    · exact ((insA_perm p l).cons q).trans (.swap ..)

theorem sortA_perm : ∀ l, (sortA l).Perm l
  | [] => .refl _
  | p :: l => (insA_perm p _).trans ((sortA_perm l).cons p)

theorem insD_desc (p : Int × Int) : ∀ l, Desc l → Desc (insD p l)
  | [], _ => ⟨by simp, trivial⟩
  | q :: l, h => by
    simp only [insD]
    split
    · rename_i hq
      refine ⟨fun r hr => ?_, h⟩
      rcases List.mem_cons.1 hr with rfl | hr
      · exact hq
      · have := h.1 r hr; omega
    · rename_i hq
      refine ⟨fun r hr => ?_, insD_desc p l h.2⟩
      rcases List.mem_cons.1 ((insD_perm p l).mem_iff.1 hr) with rfl | hr
      · omega
      · exact h.1 r hr

theorem sortD_desc : ∀ l, Desc (sortD l)
  | [] => trivial
  | p :: l => insD_desc p _ (sortD_desc l)

theorem insA_asc (p : Int × Int) : ∀ l, Asc l → Asc (insA p l)
  | [], _ => ⟨by simp, trivial⟩
  | q :: l, h => by
    simp only [insA]
    split
    · rename_i hq
      refine ⟨fun r hr => ?_, h⟩
      rcases List.mem_cons.1 hr with rfl | hr
      · exact hq
      · have := h.1 r hr; omega
    · rename_i hq
      refine ⟨fun r hr => ?_, insA_asc p l h.2⟩
      rcases List.mem_cons.1 ((insA_perm p l).mem_iff.1 hr) with rfl | hr
      · omega
      · exact h.1 r hr

theorem sortA_asc : ∀ l, Asc (sortA l)
  | [] => trivial
  | p :: l => insA_asc p _ (sortA_asc l)

theorem caps_rooms : ∀ {l : List PBed} {vs : List Int}, vs.length = l.length → caps (rooms l vs) = highs l - lows l
  | [], [], _ => by simp [rooms, caps, highs, lows]
  | [], _ :: _, h => by simp at h
  | _ :: _, [], h => by simp at h
  | b :: l, v :: vs, h => by
    have := caps_rooms (l := l) (vs := vs) (by simpa using h)
    simp only [rooms, caps, highs, lows]; omega

theorem Caps_rooms {m : Int} : ∀ {l : List PBed} {vs : List Int}, Small m l → Caps (rooms l vs)
  | [], _, _ => by simp [rooms, Caps]
  | _ :: _, [], _ => by simp [rooms, Caps]
  | b :: l, v :: vs, h => by
    intro q hq
    simp only [rooms, List.mem_cons] at hq
    rcases hq with rfl | hq
    · have := h b (List.mem_cons_self ..); simp only; omega
    · exact Caps_rooms (l := l) (vs := vs) (fun x hx => h x (List.mem_cons_of_mem _ hx)) q hq

theorem rooms_get : ∀ {l : List PBed} {vs : List Int} {i : Nat} {x : PBed} {v : Int}, l[i]? = some x → vs[i]? = some v → (rooms l vs)[i]? = some (v, x.high - x.low)
  | [], _, _, _, _, h, _ => by simp at h
  | _ :: _, [], _, _, _, _, h => by simp at h
  | b :: l, v :: vs, 0, _, _, h, h' => by simp at h h'; simp [rooms, h, h']
  | b :: l, v :: vs, i + 1, _, _, h, h' => by
    simp only [List.getElem?_cons_succ] at h h'
    simp only [rooms, List.getElem?_cons_succ]
    exact rooms_get h h'

theorem rooms_length : ∀ {l : List PBed} {vs : List Int}, vs.length = l.length → (rooms l vs).length = l.length
  | [], [], _ => rfl
  | [], _ :: _, h => by simp at h
  | _ :: _, [], h => by simp at h
  | b :: l, v :: vs, h => by simp [rooms, rooms_length (l := l) (vs := vs) (by simpa using h)]

/-- The sum of Low times value over the first beds. -/
def baseTo (l : List PBed) (vs : List Int) : Nat → Int
  | 0 => 0
  | j + 1 => baseTo l vs j + (l[j]?.map PBed.low).getD 0 * (vs[j]?).getD 0

def lowsTo (l : List PBed) : Nat → Int
  | 0 => 0
  | j + 1 => lowsTo l j + (l[j]?.map PBed.low).getD 0

theorem lowsTo_cons (b : PBed) (l : List PBed) : ∀ j, lowsTo (b :: l) (j + 1) = b.low + lowsTo l j
  | 0 => by simp [lowsTo]
  | j + 1 => by
    have := lowsTo_cons b l j
    rw [lowsTo, this, List.getElem?_cons_succ, lowsTo]; omega

theorem lowsTo_all : ∀ l : List PBed, lowsTo l l.length = lows l
  | [] => rfl
  | b :: l => by rw [List.length_cons, lowsTo_cons, lowsTo_all l, lows]

theorem baseTo_cons (b : PBed) (l : List PBed) (v : Int) (vs : List Int) : ∀ j, baseTo (b :: l) (v :: vs) (j + 1) = b.low * v + baseTo l vs j
  | 0 => by simp [baseTo]
  | j + 1 => by
    have := baseTo_cons b l v vs j
    rw [baseTo, this, List.getElem?_cons_succ, List.getElem?_cons_succ, baseTo]; omega

theorem baseTo_all : ∀ (l : List PBed) (vs : List Int), vs.length = l.length → baseTo l vs l.length = base l vs
  | [], [], _ => rfl
  | [], _ :: _, h => by simp at h
  | _ :: _, [], h => by simp at h
  | b :: l, v :: vs, h => by rw [List.length_cons, baseTo_cons, baseTo_all l vs (by simpa using h), base]

theorem lowsTo_le (l : List PBed) (m : Int) (hs : Small m l) (hm : 0 ≤ m) : ∀ j, 0 ≤ lowsTo l j ∧ lowsTo l j ≤ j * m
  | 0 => by simp [lowsTo]
  | j + 1 => by
    have ih := lowsTo_le l m hs hm j
    simp only [lowsTo]
    rw [show ((j + 1 : Nat) : Int) * m = j * m + m by rw [Int.natCast_add, Int.add_mul]; simp]
    cases h : l[j]? with
    | none => simp; omega
    | some x => have := hs x (List.mem_of_getElem? h); simp; omega

theorem lowsEx_eq (l : List PBed) (i : Nat) (x : PBed) (hx : l[i]? = some x) : ∀ j, lowsEx l i j = lowsTo l j - if i < j then x.low else 0
  | 0 => by simp [lowsEx, lowsTo]
  | j + 1 => by
    have ih := lowsEx_eq l i x hx j
    simp only [lowsEx, lowsTo, ih]
    by_cases h : j = i
    · subst h; simp [hx]
    · by_cases h2 : i < j
      · rw [if_neg h, if_pos h2, if_pos (by omega)]; omega
      · rw [if_neg h, if_neg h2, if_neg (by omega)]; omega

theorem hit_iff : ∀ {d : Int} {l : List PBed} {vs : List Int}, vs.length = l.length → (hit d l vs = true ↔ ∃ (i : Nat) (x : PBed) (v : Int), l[i]? = some x ∧ vs[i]? = some v ∧ v = never ∧ 0 < min (d + x.low) x.high)
  | _, [], [], _ => by simp [hit]
  | _, [], _ :: _, h => by simp at h
  | _, _ :: _, [], h => by simp at h
  | d, b :: l, v :: vs, h => by
    have ih := hit_iff (d := d) (l := l) (vs := vs) (by simpa using h)
    simp only [hit, Bool.or_eq_true, Bool.and_eq_true, beq_iff_eq, decide_eq_true_eq, ih]
    constructor
    · rintro (⟨h1, h2⟩ | ⟨i, x, u, h1, h2, h3, h4⟩)
      · exact ⟨0, b, v, by simp, by simp, h1, h2⟩
      · exact ⟨i + 1, x, u, by simpa using h1, by simpa using h2, h3, h4⟩
    · rintro ⟨i, x, u, h1, h2, h3, h4⟩
      cases i with
      | zero => simp at h1 h2; subst h1 h2; exact .inl ⟨h3, h4⟩
      | succ i => exact .inr ⟨i, x, u, by simpa using h1, by simpa using h2, h3, h4⟩

/-- What the program finds is the mean: a bed that may be hit has the value 'never'. -/
theorem mean_never {best : Bool} {den : Int} {l : List PBed} {vs : List Int} {i : Nat} {x : PBed} (hlen : vs.length = l.length) (hx : l[i]? = some x) (hv : vs[i]? = some never)
    (hc : 0 < min (den - lowsEx l i l.length) x.high) : mean best den l vs = never := by
  have hi : i < l.length := (List.getElem?_eq_some_iff.1 hx).1
  rw [lowsEx_eq l i x hx, if_pos hi, lowsTo_all] at hc
  have : hit (den - lows l) l vs = true := (hit_iff hlen).2 ⟨i, x, never, hx, hv, rfl, by omega⟩
  simp only [mean, this, if_true]

/-- .. and no such bed: what is missing is given in any order in which no value stands behind a smaller (greater) one. -/
theorem mean_sum {best : Bool} {den m : Int} {l : List PBed} {vs : List Int} {o : List (Int × Int)} (hlen : vs.length = l.length) (hs : Small m l) (h0 : lows l ≤ den) (h1 : den ≤ highs l)
    (hn : ∀ (i : Nat) (x : PBed), l[i]? = some x → vs[i]? = some never → ¬ 0 < min (den - lowsEx l i l.length) x.high)
    (hp : o.Perm (rooms l (vs.map tame))) (ho : if best then Asc o else Desc o) :
    mean best den l vs = if best then (base l (vs.map tame) + greedy (den - lows l) o) / den else (base l (vs.map tame) + greedy (den - lows l) o + (den - 1)) / den := by
  have hh : hit (den - lows l) l vs = false := by
    rw [Bool.eq_false_iff]
    intro h
    obtain ⟨i, x, v, hx, hv, rfl, hc⟩ := (hit_iff hlen).1 h
    have hi : i < l.length := (List.getElem?_eq_some_iff.1 hx).1
    refine hn i x hx hv ?_
    rw [lowsEx_eq l i x hx, if_pos hi, lowsTo_all]
    omega
  have hcaps : caps o = highs l - lows l := by
    rw [caps_perm hp, caps_rooms (by simpa using hlen)]
  have hC : Caps o := fun q hq => Caps_rooms (l := l) (vs := vs.map tame) hs q (hp.mem_iff.1 hq)
  simp only [mean, hh, Bool.false_eq_true, if_false]
  cases best with
  | true =>
    simp only [if_true] at ho ⊢
    rw [greedy_perm_asc (hp.trans (sortA_perm _).symm) hC ho (sortA_asc _) (by omega) (by omega)]
  | false =>
    simp only [Bool.false_eq_true, if_false] at ho ⊢
    rw [greedy_perm_desc (hp.trans (sortD_perm _).symm) hC ho (sortD_desc _) (by omega) (by omega)]

end AimP

namespace AimP

/-- Values of which the first j are tame. -/
def tameTo (vs : List Int) (j : Nat) : List Int := (vs.take j).map tame ++ vs.drop j
/-- The first j places in order, then zeros. -/
def ordTo (n j : Nat) : List Int := (List.range j).map (fun i : Nat => (i : Int)) ++ List.replicate (n - j) 0

theorem tameTo_get (vs : List Int) (j : Nat) : (tameTo vs j)[j]? = vs[j]? := by
  unfold tameTo
  by_cases h : j < vs.length
  · rw [List.getElem?_append_right (by simp; omega)]
    simp [Nat.min_eq_left (Nat.le_of_lt h)]
  · rw [List.getElem?_eq_none (by simp; omega), List.getElem?_eq_none (by omega)]

theorem take_map_snoc (vs : List Int) (j : Nat) (v : Int) (h : vs[j]? = some v) : (vs.take (j + 1)).map tame = (vs.take j).map tame ++ [tame v] := by
  rw [List.take_add_one, h]; simp

theorem tameTo_set (vs : List Int) (j : Nat) (v : Int) (h : vs[j]? = some v) : (tameTo vs j).set j (tame v) = tameTo vs (j + 1) := by
  have hj : j < vs.length := (List.getElem?_eq_some_iff.1 h).1
  unfold tameTo
  rw [take_map_snoc vs j v h, List.set_append_right _ _ (by simp; omega)]
  have : vs.drop j = v :: vs.drop (j + 1) := by
    rw [List.drop_eq_getElem_cons hj]; congr 1; exact (List.getElem?_eq_some_iff.1 h).2
  rw [this]
  simp [Nat.min_eq_left (Nat.le_of_lt hj)]

theorem tameTo_keep (vs : List Int) (j : Nat) (v : Int) (h : vs[j]? = some v) (hv : v ≠ never) : tameTo vs j = tameTo vs (j + 1) := by
  have hj : j < vs.length := (List.getElem?_eq_some_iff.1 h).1
  unfold tameTo
  rw [take_map_snoc vs j v h]
  have : vs.drop j = v :: vs.drop (j + 1) := by
    rw [List.drop_eq_getElem_cons hj]; congr 1; exact (List.getElem?_eq_some_iff.1 h).2
  rw [this]
  simp [tame, hv]

theorem tameTo_all (vs : List Int) (n : Nat) (h : vs.length ≤ n) : tameTo vs n = vs.map tame := by
  unfold tameTo
  rw [List.take_of_length_le h, List.drop_eq_nil_of_le h, List.append_nil]

theorem ordTo_set (n j : Nat) (h : j < n) : (ordTo n j).set j (j : Int) = ordTo n (j + 1) := by
  unfold ordTo
  rw [List.set_append_right _ _ (by simp), List.range_succ]
  have : n - j = (n - (j + 1)) + 1 := by omega
  rw [this, List.replicate_succ]
  simp

theorem ordTo_get (n j : Nat) (h : j < n) : (ordTo n j)[j]? = some 0 := by
  unfold ordTo
  rw [List.getElem?_append_right (by simp), List.getElem?_replicate, if_pos (by simp; omega)]

theorem ordTo_all (n : Nat) : ordTo n n = (List.range n).map (fun i : Nat => (i : Int)) := by simp [ordTo]

theorem baseTo_bd (l : List PBed) (vs : List Int) (m M : Int) (hs : Small m l) (hm : 0 ≤ m) (hv : ∀ v ∈ vs, 0 ≤ v ∧ v ≤ M) (hM : 0 ≤ M) : ∀ j, 0 ≤ baseTo l vs j ∧ baseTo l vs j ≤ j * (m * M)
  | 0 => by simp [baseTo]
  | j + 1 => by
    have ih := baseTo_bd l vs m M hs hm hv hM j
    simp only [baseTo]
    rw [show ((j + 1 : Nat) : Int) * (m * M) = j * (m * M) + m * M by rw [Int.natCast_add, Int.add_mul]; simp]
    have a : 0 ≤ (l[j]?.map PBed.low).getD 0 ∧ (l[j]?.map PBed.low).getD 0 ≤ m := by
      cases h : l[j]? with
      | none => simp; omega
      | some x => have := hs x (List.mem_of_getElem? h); simp; omega
    have b : 0 ≤ (vs[j]?).getD 0 ∧ (vs[j]?).getD 0 ≤ M := by
      cases h : vs[j]? with
      | none => simp; omega
      | some x => have := hv x (List.mem_of_getElem? h); simp; omega
    have c := Int.mul_nonneg a.1 b.1
    have d := Int.mul_le_mul a.2 b.2 b.1 hm
    omega

theorem tame_bd {M v : Int} (h : 0 ≤ v ∧ v ≤ M) (hM : 0 ≤ M) : 0 ≤ tame v ∧ tame v ≤ M := by unfold tame; split <;> omega

theorem prod_bd {m M a b : Int} (h0 : 0 ≤ a) (h1 : a ≤ m) (h2 : 0 ≤ b) (h3 : b ≤ M) : 0 ≤ a * b ∧ a * b ≤ m * M :=
  ⟨Int.mul_nonneg h0 h2, Int.mul_le_mul h1 h3 h2 (by omega)⟩

end AimP

namespace AimP

def roomAt (l : List PBed) (us : List Int) (i : Nat) : Int × Int := ((us[i]?).getD 0, ((l[i]?).map (fun x => x.high - x.low)).getD 0)

theorem rooms_range (l : List PBed) (us : List Int) (h : us.length = l.length) : rooms l us = (List.range l.length).map (roomAt l us) := by
  apply List.ext_getElem?
  intro i
  by_cases hi : i < l.length
  · have h1 : l[i]? = some l[i] := by simp [hi]
    have h2 : us[i]? = some (us[i]'(by omega)) := by simp [h, hi]
    rw [rooms_get h1 h2]
    simp [hi, roomAt, h2]
  · rw [List.getElem?_eq_none (by rw [rooms_length h]; omega), List.getElem?_eq_none (by simp; omega)]

theorem asc_of_pairwise : ∀ {l : List (Int × Int)}, l.Pairwise (fun p q => p.1 ≤ q.1) → Asc l
  | [], _ => trivial
  | _ :: _, h => ⟨(List.pairwise_cons.1 h).1, asc_of_pairwise (List.pairwise_cons.1 h).2⟩
theorem desc_of_pairwise : ∀ {l : List (Int × Int)}, l.Pairwise (fun p q => q.1 ≤ p.1) → Desc l
  | [], _ => trivial
  | _ :: _, h => ⟨(List.pairwise_cons.1 h).1, desc_of_pairwise (List.pairwise_cons.1 h).2⟩

end AimP

namespace AimP

/-! ### Values of positions -/

structure Rules where
  den : Int
  aims : List (Int × List PBed)
  start : Nat
  out : Int

/-- A valid aim, as chapter 7 says (what is aimed at aside). -/
structure AimOk (den : Int) (l : List PBed) : Prop where
  len1 : 1 ≤ l.length
  len : l.length ≤ 10
  small : Small den l
  lows : lows l ≤ den
  highs : den ≤ highs l
  beds : ∀ x ∈ l, 0 ≤ x.bed ∧ x.bed ≤ 425

structure RulesOk (r : Rules) : Prop where
  den1 : 1 ≤ r.den
  den : r.den ≤ 3000
  len1 : 1 ≤ r.aims.length
  len : r.aims.length ≤ 20
  aims : ∀ a ∈ r.aims, AimOk r.den a.2
  start2 : 2 ≤ r.start
  start : r.start ≤ 60
  out0 : 0 ≤ r.out
  out : r.out ≤ 2

/-- The number of a score. -/
def numOf (num : List Int) (x : Int) : Int := (num[x.toNat]?).getD 0

/-- The value after a dart in a bed: V is the value of what comes next. -/
def nextV (out : Int) (num : List Int) (s : Nat) (V : Int → Int) (left bed : Int) : Int :=
  if left - score bed = 0 ∧ opens bed out = true then 0
  else if left - score bed < lowest out then numOf num s
  else V (left - score bed)

def minL (l : List Int) : Int := l.foldl min never

/-- The means of all aims at a position. -/
def meansV (r : Rules) (best : Bool) (num : List Int) (s : Nat) (V : Int → Int) (left : Int) : List Int :=
  r.aims.map fun a => mean best r.den a.2 (a.2.map fun b => nextV r.out num s V left b.bed)

/-- The value of a position: by how many darts are still to be thrown, and what is left. -/
def val (r : Rules) (best : Bool) (num : List Int) (s : Nat) : Nat → Int → Int
  | 0, x => numOf num x
  | d + 1, x => minL (meansV r best num s (val r best num s d) x)

end AimP

namespace AimP

/-! ### Bounds -/

theorem lows_nonneg {m : Int} : ∀ {l : List PBed}, Small m l → 0 ≤ lows l
  | [], _ => by simp [lows]
  | b :: l, h => by
    have := lows_nonneg (l := l) (fun x hx => h x (List.mem_cons_of_mem _ hx))
    have := h b (List.mem_cons_self ..)
    simp only [lows]; omega

theorem base_bd {m c : Int} (hc : 0 ≤ c) : ∀ {l : List PBed} {vs : List Int}, Small m l → (∀ v ∈ vs, 0 ≤ v ∧ v ≤ c) → 0 ≤ base l vs ∧ base l vs ≤ lows l * c
  | [], _, _, _ => by simp [base, lows]
  | b :: l, [], h, _ => by
    have h1 := lows_nonneg h
    have := Int.mul_nonneg h1 hc
    simp only [base]; omega
  | b :: l, v :: vs, h, hv => by
    have ih := base_bd hc (l := l) (vs := vs) (fun x hx => h x (List.mem_cons_of_mem _ hx)) (fun x hx => hv x (List.mem_cons_of_mem _ hx))
    have h1 := h b (List.mem_cons_self ..)
    have h2 := hv v (List.mem_cons_self ..)
    have h3 := Int.mul_nonneg h1.1 h2.1
    have h4 : b.low * v ≤ b.low * c := Int.mul_le_mul_of_nonneg_left h2.2 h1.1
    simp only [base, lows]
    rw [Int.add_mul]
    omega

theorem rooms_vals {c : Int} : ∀ {l : List PBed} {vs : List Int}, (∀ v ∈ vs, 0 ≤ v ∧ v ≤ c) → ∀ q ∈ rooms l vs, 0 ≤ q.1 ∧ q.1 ≤ c
  | [], _, _, q, h => by simp [rooms] at h
  | _ :: _, [], _, q, h => by simp [rooms] at h
  | b :: l, v :: vs, hv, q, h => by
    simp only [rooms, List.mem_cons] at h
    rcases h with rfl | h
    · exact hv v (List.mem_cons_self ..)
    · exact rooms_vals (l := l) (vs := vs) (fun x hx => hv x (List.mem_cons_of_mem _ hx)) q h

/-- What the greedy sum comes to: a truth's. -/
theorem sum_bd {den m c : Int} {l : List PBed} {vs : List Int} {o : List (Int × Int)} (hc : 0 ≤ c) (hs : Small m l) (hlen : vs.length = l.length) (h0 : lows l ≤ den) (h1 : den ≤ highs l) (hv : ∀ v ∈ vs, 0 ≤ v ∧ v ≤ c) (hp : o.Perm (rooms l vs)) :
    0 ≤ base l vs + greedy (den - lows l) o ∧ base l vs + greedy (den - lows l) o ≤ den * c := by
  have hb := base_bd hc hs hv
  have hcaps : caps o = highs l - lows l := by rw [caps_perm hp, caps_rooms hlen]
  have hC : Caps o := fun q hq => Caps_rooms (l := l) (vs := vs) hs q (hp.mem_iff.1 hq)
  have hcan := greedy_can (l := o) (m := den - lows l) hC (by omega) (by omega)
  have hq : ∀ q ∈ o, 0 ≤ q.1 ∧ q.1 ≤ c := fun q hq => rooms_vals hv q (hp.mem_iff.1 hq)
  have a := can_le_top (fun q h => (hq q h).2) hcan
  have b := can_ge_bot (c := 0) (fun q h => (hq q h).1) hcan
  rw [Int.sub_mul] at a
  simp at b
  omega

theorem tame_lt {v : Int} (h : 0 ≤ v ∧ v ≤ never) : 0 ≤ tame v ∧ tame v ≤ never - 1 := by unfold tame; unfold never at *; split <;> omega

theorem mean_bd {best : Bool} {den m : Int} {l : List PBed} {vs : List Int} (hd : 1 ≤ den) (hs : Small m l) (hlen : vs.length = l.length) (h0 : lows l ≤ den) (h1 : den ≤ highs l) (hv : ∀ v ∈ vs, 0 ≤ v ∧ v ≤ never) :
    0 ≤ mean best den l vs ∧ mean best den l vs ≤ never := by
  have hv' : ∀ u ∈ vs.map tame, 0 ≤ u ∧ u ≤ never - 1 := by
    intro u hu
    obtain ⟨t, ht, rfl⟩ := List.mem_map.1 hu
    exact tame_lt (hv t ht)
  unfold mean
  split
  · unfold never; omega
  · cases best with
    | true =>
      simp only [if_true]
      have := sum_bd (c := never - 1) (by unfold never; omega) hs (by simpa using hlen) h0 h1 hv' (sortA_perm _)
      constructor
      · exact Int.ediv_nonneg this.1 (by omega)
      · have := Int.ediv_le_ediv (c := den) (by omega) this.2
        rw [Int.mul_ediv_cancel_left _ (by omega)] at this
        omega
    | false =>
      simp only [Bool.false_eq_true, if_false]
      have := sum_bd (c := never - 1) (by unfold never; omega) hs (by simpa using hlen) h0 h1 hv' (sortD_perm _)
      constructor
      · exact Int.ediv_nonneg (by omega) (by omega)
      · have h2 : base l (vs.map tame) + greedy (den - lows l) (sortD (rooms l (vs.map tame))) + (den - 1) ≤ den * never := by
          have : den * never = den * (never - 1) + den := by rw [Int.mul_sub]; omega
          omega
        have := Int.ediv_le_ediv (c := den) (by omega) h2
        rwa [Int.mul_ediv_cancel_left _ (by omega)] at this

theorem foldl_min_le : ∀ (l : List Int) (a : Int), l.foldl min a ≤ a ∧ ∀ x ∈ l, l.foldl min a ≤ x
  | [], a => by simp
  | y :: l, a => by
    have ih := foldl_min_le l (min a y)
    simp only [List.foldl_cons]
    refine ⟨by omega, fun x hx => ?_⟩
    rcases List.mem_cons.1 hx with rfl | hx
    · omega
    · exact ih.2 x hx

theorem foldl_min_mem : ∀ (l : List Int) (a : Int), l.foldl min a = a ∨ l.foldl min a ∈ l
  | [], a => .inl rfl
  | y :: l, a => by
    simp only [List.foldl_cons]
    rcases foldl_min_mem l (min a y) with h | h
    · by_cases hay : a ≤ y
      · left; rw [h]; omega
      · right; rw [h, Int.min_eq_right (by omega)]; exact List.mem_cons_self ..
    · exact .inr (List.mem_cons_of_mem _ h)

theorem minL_bd {l : List Int} (h : ∀ x ∈ l, 0 ≤ x) : 0 ≤ minL l ∧ minL l ≤ never := by
  refine ⟨?_, (foldl_min_le l never).1⟩
  rcases foldl_min_mem l never with h1 | h1
  · unfold minL; rw [h1]; unfold never; omega
  · exact h _ h1

def NumOk (num : List Int) : Prop := ∀ v ∈ num, 0 ≤ v ∧ v ≤ never

theorem numOf_bd {num : List Int} (h : NumOk num) (x : Int) : 0 ≤ numOf num x ∧ numOf num x ≤ never := by
  unfold numOf
  cases hx : num[x.toNat]? with
  | none => simp [never]
  | some v => exact h v (List.mem_of_getElem? hx)

theorem nextV_bd {num : List Int} {V : Int → Int} (h : NumOk num) (hV : ∀ x, 0 ≤ V x ∧ V x ≤ never) (out : Int) (s : Nat) (left b : Int) : 0 ≤ nextV out num s V left b ∧ nextV out num s V left b ≤ never := by
  unfold nextV
  split
  · simp [never]
  · split
    · exact numOf_bd h _
    · exact hV _

theorem val_bd {r : Rules} (hr : RulesOk r) {num : List Int} (h : NumOk num) (best : Bool) (s : Nat) : ∀ (d : Nat) (x : Int), 0 ≤ val r best num s d x ∧ val r best num s d x ≤ never
  | 0, x => numOf_bd h x
  | d + 1, x => by
    refine minL_bd fun m hm => ?_
    obtain ⟨a, ha, rfl⟩ := List.mem_map.1 hm
    have hok := hr.aims a ha
    exact (mean_bd hr.den1 hok.small (by simp) hok.lows hok.highs (fun v hv => by
      obtain ⟨b, _, rfl⟩ := List.mem_map.1 hv
      exact nextV_bd h (val_bd hr h best s d) _ _ _ _)).1

theorem minL_take (ms : List Int) (k : Nat) (m : Int) (h : ms[k]? = some m) : minL (ms.take (k + 1)) = min (minL (ms.take k)) m := by
  unfold minL
  rw [List.take_add_one, h]
  simp

theorem minL_take_bd {ms : List Int} (h : ∀ x ∈ ms, 0 ≤ x) (k : Nat) : 0 ≤ minL (ms.take k) ∧ minL (ms.take k) ≤ never := minL_bd fun x hx => h x (List.mem_of_mem_take hx)

end AimP

namespace AimP

/-- The inequality of a score. -/
def holds (r : Rules) (best : Bool) (num : List Int) (s : Nat) : Bool :=
  if best then decide (numOf num s ≤ whole + val r best num s 3 s) else decide (whole + val r best num s 3 s ≤ numOf num s ∨ numOf num s = never)

end AimP
