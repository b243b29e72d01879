/- Plain: what the statements of chapter 8 say of tables; no program in sight. -/
import Derived.Test.YtnaehbgmfajdjaaTables
namespace AimP

section
variable {r : Rules} (hr : RulesOk r)
include hr

theorem bestMeanRel {d c : Int} : ∀ a ∈ r.aims, ∃ b ∈ r.aims, MeanRel (Lt d c) true false r.den Known b.2 a.2 := fun a ha =>
  ⟨a, ha, meanRel_both (hr.aims a ha) (hr.aims a ha) hr.den1 rfl (fun i x y hx hy => by rw [hx] at hy; cases hy; rfl) (let ⟨t, ht⟩ := some_truth (hr.aims a ha); ⟨t, ht, ht⟩)⟩

/-- The lower number is at most the upper one. -/
theorem lower_le_upper : ∀ (s : Nat), lowest r.out ≤ s → s ≤ r.start → numOf (table r true) s ≤ numOf (table r false) s := by
  intro s
  induction s using Nat.strongRecOn with
  | _ s ih =>
    intro hs hss
    obtain ⟨l1, l2, l3, l4⟩ := lower_spec hr hs hss
    obtain ⟨u1, u2, u3⟩ := upper_spec hr hs hss
    rcases u2 with u2 | ⟨u2, u4⟩
    · rw [u2]; unfold maxV at l2; unfold never; omega
    · refine Int.not_lt.1 fun hlt => ?_
      obtain ⟨l, hl⟩ : ∃ l, l = numOf (table r true) s := ⟨_, rfl⟩
      obtain ⟨u, hu⟩ : ∃ u, u = numOf (table r false) s := ⟨_, rfl⟩
      rw [← hl, ← hu] at hlt
      rw [← hl] at l2 l3
      rw [← hu] at u2 u4
      have hb := lowest_bd r.out
      have key := val_rel (Rel_Lt (d := l - u) (c := u) (by omega)) (r1 := r) (r2 := r) (b1 := true) (b2 := false) (n1 := table r true) (n2 := table r false) (s := s) (M1 := Known) hr (table_known).ok rfl rfl
        (by simp [Known, never]) (fun x => (table_known.of x).2) (fun d x => val_known hr table_known true s d x) (beds0 hr) (bestMeanRel hr)
        (fun x hx hxs => by
          obtain ⟨x, rfl⟩ : ∃ n : Nat, x = n := ⟨x.toNat, by omega⟩
          by_cases e : x = s
          · subst e
            rw [← hl, ← hu]
            exact .inr ⟨by unfold maxV at l2; unfold never; omega, .inr ⟨by omega, by omega⟩⟩
          · have := ih x (by omega) hx (by omega)
            have hk := (table_known (r := r)).of x
            exact .inr ⟨by omega, .inl (by omega)⟩) hs 3 s hs (Int.le_refl _)
      have hv := val_bd hr (table_ok r false) false s 3 s
      rcases key with h | ⟨_, h | ⟨_, h⟩⟩
      · rw [h] at u4; unfold whole never at u4; unfold maxV at u2; omega
      · omega
      · unfold whole at u4; omega

/-- .. and so is each best value, and each aim's best mean. -/
theorem best_le_worst (s : Nat) (hs : lowest r.out ≤ s) (hss : s ≤ r.start) (d : Nat) (x : Int) (hx : lowest r.out ≤ x) (hxs : x ≤ s) : Lt 1 never (val r true (table r true) s d x) (val r false (table r false) s d x) := by
  have hb := lowest_bd r.out
  refine val_rel (Rel_Lt (d := 1) (c := never) (by omega)) (M1 := Known) hr (table_known).ok rfl rfl
    (by simp [Known, never]) (fun x => (table_known.of x).2) (fun d x => val_known hr table_known true s d x) (beds0 hr) (bestMeanRel hr) (fun x hx hxs => ?_) hs d x hx hxs
  obtain ⟨x, rfl⟩ : ∃ n : Nat, x = n := ⟨x.toNat, by omega⟩
  have := lower_le_upper hr x hx (by omega)
  have hk := (table_known (r := r)).of x
  exact .inr ⟨by omega, .inl (by omega)⟩

theorem best_mean_le (s : Nat) (hs : lowest r.out ≤ s) (hss : s ≤ r.start) (d : Nat) (x : Int) (_ : lowest r.out ≤ x) (hxs : x ≤ s) (i : Nat) (u v : Int)
    (hu : (meansV r true (table r true) s (val r true (table r true) s d) x)[i]? = some u) (hv : (meansV r false (table r false) s (val r false (table r false) s d) x)[i]? = some v) : u ≤ v := by
  have hul := (means_bd hr (table_known (r := r)).ok true s d x u (List.mem_of_getElem? hu)).2
  have hvl := (means_bd hr (table_ok r false) false s d x v (List.mem_of_getElem? hv)).2
  simp only [meansV, List.getElem?_map, Option.map_eq_some_iff] at hu hv
  obtain ⟨a, ha, rfl⟩ := hu
  obtain ⟨a', ha', rfl⟩ := hv
  rw [ha] at ha'
  cases ha'
  have hm := List.mem_of_getElem? ha
  have hok := hr.aims a hm
  obtain ⟨t, ht⟩ := some_truth hok
  have := best_worst (d := 1) (c := never) hok hok hr.den1 (v1 := a.2.map fun b => nextV r.out (table r true) s (val r true (table r true) s d) x b.bed) (v2 := a.2.map fun b => nextV r.out (table r false) s (val r false (table r false) s d) x b.bed) (by simp) (by simp)
    (fun v hv => by
      obtain ⟨b, _, rfl⟩ := List.mem_map.1 hv
      refine ⟨(nextV_bd (table_known (r := r)).ok (val_bd hr (table_known (r := r)).ok true s d) _ _ _ _).1, ?_⟩
      unfold nextV
      split
      · simp [never]
      · split
        · exact (table_known.of _).2
        · exact val_known hr table_known true s d _) ⟨t, ht, ht⟩
    (fun j p q hp hq => by
      simp only [List.getElem?_map, Option.map_eq_some_iff] at hp hq
      obtain ⟨b, hb, rfl⟩ := hp
      obtain ⟨b', hb', rfl⟩ := hq
      rw [hb] at hb'
      cases hb'
      have hq0 := score_nonneg (beds0 hr a hm b (List.mem_of_getElem? hb))
      unfold nextV
      split
      · exact .inr ⟨by simp [never], .inl (by omega)⟩
      · split
        · have := lower_le_upper hr s hs hss
          have hk := (table_known (r := r)).of s
          exact .inr ⟨by omega, .inl (by omega)⟩
        · exact best_le_worst hr s hs hss d _ (by omega) (by omega))
  rcases this with h | ⟨_, h | ⟨_, h⟩⟩
  · rw [h]; exact hul
  · omega
  · omega

end

/-! ### Two rules compared -/

theorem upper_mono {r1 r2 : Rules} (h1 : RulesOk r1) (h2 : RulesOk r2) (hden : r1.den = r2.den) (hout : r1.out = r2.out) (hst : r1.start = r2.start)
    (hm : ∀ a2 ∈ r2.aims, ∃ a1 ∈ r1.aims, MeanRel (Le 0) false false r1.den Any a1.2 a2.2) :
    ∀ (s : Nat), lowest r1.out ≤ s → s ≤ r1.start → numOf (table r1 false) s ≤ numOf (table r2 false) s := by
  intro s
  induction s using Nat.strongRecOn with
  | _ s ih =>
    intro hs hss
    obtain ⟨u1, u2, u3⟩ := upper_spec h1 hs hss
    obtain ⟨v1, v2, v3⟩ := upper_spec h2 (s := s) (by rw [← hout]; exact hs) (by omega)
    have hb := lowest_bd r1.out
    rcases v2 with v2 | ⟨v2, v4⟩
    · rw [v2]; exact (numOf_bd (table_ok r1 false) s).2
    · refine Int.not_lt.1 fun hlt => ?_
      have hk := u3 _ v1 hlt v2
      have hset : NumOk ((table r1 false).set s (numOf (table r2 false) s)) := numOk_set (table_ok r1 false) (numOf_bd (table_ok r2 false) s) s
      have key := val_rel (Rel_Le (d := 0) (by omega)) (r1 := r1) (r2 := r2) (b1 := false) (b2 := false) (n1 := (table r1 false).set s (numOf (table r2 false) s)) (n2 := table r2 false) (s := s) (M1 := Any) h1 hset hden hout
        trivial (fun _ => trivial) (fun _ _ => trivial) (beds0 h2) hm
        (fun x hx hxs => by
          obtain ⟨x, rfl⟩ : ∃ n : Nat, x = n := ⟨x.toNat, by omega⟩
          have hx2 := numOf_bd (table_ok r2 false) x
          by_cases e : numOf (table r2 false) x = never
          · exact .inl e
          rw [numOf_set _ s (by rw [table_length]; omega) _ _ (by omega)]
          split
          · rename_i hxe
            rw [hxe] at e hx2 ⊢
            exact .inr ⟨e, by omega⟩
          · have := ih x (by omega) hx (by omega)
            exact .inr ⟨by omega, by omega⟩) hs 3 s hs (Int.le_refl _)
      rcases key with h | ⟨_, h⟩
      · rw [h] at v4; unfold whole never at v4; unfold maxV at v2; omega
      · omega

theorem lower_mono {r1 r2 : Rules} (h1 : RulesOk r1) (h2 : RulesOk r2) (hden : r1.den = r2.den) (hout : r1.out = r2.out) (hst : r1.start = r2.start)
    (hm : ∀ a2 ∈ r2.aims, ∃ a1 ∈ r1.aims, MeanRel (Le 0) true true r1.den Known a1.2 a2.2) :
    ∀ (s : Nat), lowest r1.out ≤ s → s ≤ r1.start → numOf (table r1 true) s ≤ numOf (table r2 true) s := by
  intro s
  induction s using Nat.strongRecOn with
  | _ s ih =>
    intro hs hss
    obtain ⟨u1, u2, u3, u4⟩ := lower_spec h1 hs hss
    obtain ⟨v1, v2, v3, v4⟩ := lower_spec h2 (s := s) (by rw [← hout]; exact hs) (by omega)
    have hb := lowest_bd r1.out
    refine Int.not_lt.1 fun hlt => ?_
    have hk := v4 _ hlt u2
    have hkn : NumKnown ((table r2 true).set s (numOf (table r1 true) s)) := by
      intro y hy
      rcases List.mem_or_eq_of_mem_set hy with hy | rfl
      · exact table_known y hy
      · exact table_known.of s
    have key := val_rel (Rel_Le (d := 0) (by omega)) (r1 := r1) (r2 := r2) (b1 := true) (b2 := true) (n1 := table r1 true) (n2 := (table r2 true).set s (numOf (table r1 true) s)) (s := s) (M1 := Known) h1 (table_known).ok hden hout
      (by simp [Known, never]) (fun x => (table_known.of x).2) (fun d x => val_known h1 table_known true s d x) (beds0 h2) hm
      (fun x hx hxs => by
        obtain ⟨x, rfl⟩ : ∃ n : Nat, x = n := ⟨x.toNat, by omega⟩
        have hx1 := (table_known (r := r1)).of x
        rw [numOf_set _ s (by rw [table_length]; omega) _ _ (by omega)]
        split
        · rename_i hxe
          rw [hxe] at hx1 ⊢
          exact .inr ⟨by omega, by omega⟩
        · have := ih x (by omega) hx (by omega)
          exact .inr ⟨by omega, by omega⟩) hs 3 s hs (Int.le_refl _)
    have hv := val_known h2 hkn true s 3 s
    rcases key with h | ⟨_, h⟩
    · omega
    · omega

/-! ### The inequalities, proved -/

section
variable {r : Rules} (hr : RulesOk r) {s : Nat} (hs : lowest r.out ≤ s) (hss : s ≤ r.start)
include hr hs hss

theorem holds_upper : holds r false (table r false) s = true := by
  obtain ⟨u1, u2, u3⟩ := upper_spec hr hs hss
  simp only [holds, Bool.false_eq_true, if_false, decide_eq_true_eq]
  rcases u2 with u2 | ⟨_, u2⟩
  · exact .inr u2
  · exact .inl u2

theorem holds_lower : holds r true (table r true) s = true := by
  obtain ⟨u1, u2, u3, u4⟩ := lower_spec hr hs hss
  simp only [holds, if_true, decide_eq_true_eq]
  exact u3

theorem fails_upper (hn : numOf (table r false) s ≠ never) : holds r false ((table r false).set s (numOf (table r false) s - 1)) s = false := by
  obtain ⟨u1, u2, u3⟩ := upper_spec hr hs hss
  have h0 := numOf_bd (table_ok r false) s
  have hset : NumOk ((table r false).set s (numOf (table r false) s - 1)) := numOk_set (table_ok r false) ⟨by unfold whole at u1; omega, by omega⟩ s
  have hv := val_bd hr hset false s 3 s
  simp only [holds, Bool.false_eq_true, if_false, decide_eq_false_iff_not, numOf_set (table r false) s (by rw [table_length]; omega) _ _ (show (0 : Int) ≤ s by omega), if_true]
  rcases u2 with u2 | ⟨u2, _⟩
  · exact absurd u2 hn
  · by_cases h : whole ≤ numOf (table r false) s - 1
    · have := u3 _ h (by omega) (by omega)
      unfold maxV at u2; unfold never; omega
    · unfold maxV at u2; unfold never; omega

theorem fails_lower (hn : numOf (table r true) s < maxV) : holds r true ((table r true).set s (numOf (table r true) s + 1)) s = false := by
  obtain ⟨u1, u2, u3, u4⟩ := lower_spec hr hs hss
  simp only [holds, if_true, decide_eq_false_iff_not, numOf_set (table r true) s (by rw [table_length]; omega) _ _ (show (0 : Int) ≤ s by omega)]
  have := u4 _ (Int.lt_succ (numOf (table r true) s)) (by omega)
  omega

end

/-- An inequality does not hang on the numbers of greater scores. -/
theorem holds_set {r : Rules} (hr : RulesOk r) (best : Bool) {num : List Int} {x s : Nat} (hx : lowest r.out ≤ x) (hxs : x < s) (hs : s < num.length) (v : Int) : holds r best (num.set s v) x = holds r best num x := by
  have hb := lowest_bd r.out
  have h1 : ∀ y : Int, lowest r.out ≤ y → y ≤ x → numOf (num.set s v) y = numOf num y := fun y hy hyx => by
    rw [numOf_set _ _ hs _ _ (by omega), if_neg (by omega)]
  have h2 := val_congr (r := r) (best := best) (s := x) (beds0 hr) hx h1 3 x hx (Int.le_refl _)
  simp only [holds, h2, h1 x hx (Int.le_refl _)]

/-! ### Visits by truths -/

/-- The mean number of visits by aims and truths, by darts and what is left. -/
def stepV (r : Rules) (visits : List Int) (s : Nat) (aim : Nat → Int → Nat) (tr : Nat → Int → List Int) (up : Int) : Nat → Int → Int
  | 0, x => numOf visits x
  | d + 1, x => (up * 23 + dot (tr (d + 1) x) (((r.aims[aim (d + 1) x]?).map fun a => a.2.map fun b => nextV r.out visits s (stepV r visits s aim tr up d) x b.bed).getD [])) / 24

theorem ediv_le {a b c : Int} (h : a ≤ b * c) (hc : 0 < c) : a / c ≤ b := by
  have := Int.ediv_le_ediv hc h
  rwa [Int.mul_ediv_cancel _ (by omega)] at this

/-- Whatever the truth and the aims, no fewer visits are needed than the lower number. -/
theorem sooner {r : Rules} (hr : RulesOk r) (hden : r.den = 24) {visits : List Int} {s : Nat} (hs : lowest r.out ≤ s) (hss : s ≤ r.start) {aim : Nat → Int → Nat} {tr : Nat → Int → List Int}
    (ha : ∀ d x, aim d x < r.aims.length) (ht : ∀ (d : Nat) (x : Int) a, lowest r.out ≤ x → x ≤ s → r.aims[aim d x]? = some a → Tr a.2 24 (tr d x))
    (hv : ∀ x : Int, lowest r.out ≤ x → x ≤ s → numOf (table r true) x ≤ numOf visits x) :
    ∀ (d : Nat) (x : Int), lowest r.out ≤ x → x ≤ s → val r true (table r true) s d x ≤ stepV r visits s aim tr 1 d x
  | 0, x, hx, hxs => hv x hx hxs
  | d + 1, x, hx, hxs => by
    have ih := sooner hr hden hs hss ha ht hv d
    have hb := lowest_bd r.out
    obtain ⟨a, hai⟩ : ∃ a, r.aims[aim (d + 1) x]? = some a := ⟨_, List.getElem?_eq_getElem (ha _ _)⟩
    have hm := List.mem_of_getElem? hai
    have hok := hr.aims a hm
    rw [hden] at hok
    have hT := ht (d + 1) x a hx hxs hai
    simp only [stepV, hai, Option.map_some, Option.getD_some]
    have hk : ∀ v ∈ a.2.map fun b => nextV r.out (table r true) s (val r true (table r true) s d) x b.bed, 0 ≤ v ∧ v < never := by
      intro v hv
      obtain ⟨b, _, rfl⟩ := List.mem_map.1 hv
      refine ⟨(nextV_bd (table_known (r := r)).ok (val_bd hr (table_known (r := r)).ok true s d) _ _ _ _).1, ?_⟩
      unfold nextV
      split
      · simp [never]
      · split
        · exact (table_known.of _).2
        · exact val_known hr table_known true s d _
    have h1 := best_le (vs := a.2.map fun b => nextV r.out (table r true) s (val r true (table r true) s d) x b.bed) hok (by omega) (by simp) (mean_tame hok (by omega) (by simp) hk) hT
    have h2 := dot_cmp (t := tr (d + 1) x) (u := (a.2.map fun b => nextV r.out (table r true) s (val r true (table r true) s d) x b.bed).map tame) (v := a.2.map fun b => nextV r.out visits s (stepV r visits s aim tr 1 d) x b.bed) (δ := 0) (by simp [hT.length]) (by simp [hT.length]) (fun i c hc => hT.nonneg hok.small hc)
      (fun i c p q _ hp hq _ => by
        obtain ⟨p, hp', rfl⟩ := get_map hp
        rw [tame_of (by have := (hk p (List.mem_of_getElem? hp')).2; omega)]
        simp only [List.getElem?_map, Option.map_eq_some_iff] at hp' hq
        obtain ⟨b, hbb, rfl⟩ := hp'
        obtain ⟨b', hb', rfl⟩ := hq
        rw [hbb] at hb'
        cases hb'
        have hq0 := score_nonneg (beds0 hr a hm b (List.mem_of_getElem? hbb))
        unfold nextV
        split
        · omega
        · split
          · have := hv s hs (Int.le_refl _); omega
          · have := ih (x - score b.bed) (by omega) (by omega); omega)
    have h3 := (foldl_min_le (meansV r true (table r true) s (val r true (table r true) s d) x) never).2 _ (List.mem_map.2 ⟨a, hm, rfl⟩)
    rw [hden] at h3
    simp only [val, minL]
    have : mean true 24 a.2 (a.2.map fun b => nextV r.out (table r true) s (val r true (table r true) s d) x b.bed) ≤ (1 * 23 + dot (tr (d + 1) x) (a.2.map fun b => nextV r.out visits s (stepV r visits s aim tr 1 d) x b.bed)) / 24 := by
      rw [Int.le_ediv_iff_mul_le (by omega)]
      omega
    omega

theorem stepV_bd {r : Rules} (hr : RulesOk r) (hden : r.den = 24) {visits : List Int} {s : Nat} {c : Int} (hc : 0 ≤ c) (hs : lowest r.out ≤ s) {aim : Nat → Int → Nat} {tr : Nat → Int → List Int} {up : Int} (hup : up = 0 ∨ up = 1)
    (ht : ∀ (d : Nat) (x : Int) a, lowest r.out ≤ x → x ≤ s → r.aims[aim d x]? = some a → Tr a.2 24 (tr d x))
    (hv : ∀ x : Int, lowest r.out ≤ x → x ≤ s → 0 ≤ numOf visits x ∧ numOf visits x ≤ c) :
    ∀ (d : Nat) (x : Int), lowest r.out ≤ x → x ≤ s → 0 ≤ stepV r visits s aim tr up d x ∧ stepV r visits s aim tr up d x ≤ c
  | 0, x, hx, hxs => hv x hx hxs
  | d + 1, x, hx, hxs => by
    have ih := stepV_bd hr hden hc hs hup ht hv d
    simp only [stepV]
    cases hai : r.aims[aim (d + 1) x]? with
    | none =>
      have : ∀ t, dot t [] = 0 := fun t => by cases t <;> rfl
      simp only [Option.map_none, Option.getD_none, this]
      omega
    | some a =>
      have hm := List.mem_of_getElem? hai
      have hok := hr.aims a hm
      rw [hden] at hok
      have hT := ht (d + 1) x a hx hxs hai
      have hvs : ∀ (i : Nat) y, (a.2.map fun b => nextV r.out visits s (stepV r visits s aim tr up d) x b.bed)[i]? = some y → 0 ≤ y ∧ y ≤ c := by
        intro i y hy
        simp only [List.getElem?_map, Option.map_eq_some_iff] at hy
        obtain ⟨b, hb, rfl⟩ := hy
        have hq0 := score_nonneg (beds0 hr a hm b (List.mem_of_getElem? hb))
        unfold nextV
        split
        · omega
        · split
          · exact hv s hs (Int.le_refl _)
          · exact ih _ (by omega) (by omega)
      have h1 := dot_low (t := tr (d + 1) x) (v := a.2.map fun b => nextV r.out visits s (stepV r visits s aim tr up d) x b.bed) (c := 0) (by simp [hT.length]) (fun i c hc => hT.nonneg hok.small hc) (fun i _ y _ hy _ => (hvs i y hy).1)
      have h2 := dot_cmp (t := tr (d + 1) x) (u := a.2.map fun b => nextV r.out visits s (stepV r visits s aim tr up d) x b.bed) (v := (tr (d + 1) x).map fun _ => 0) (δ := c) (by simp [hT.length]) (by simp) (fun i c hc => hT.nonneg hok.small hc) (fun i _ y z _ hy hz _ => by
        simp only [List.getElem?_map, Option.map_eq_some_iff] at hz
        obtain ⟨_, _, rfl⟩ := hz
        have := (hvs i y hy).2
        omega)
      have h0 : ∀ t : List Int, dot t (t.map fun _ => 0) = 0 := by
        intro t
        induction t with
        | nil => rfl
        | cons _ _ ih => simp [dot, ih]
      rw [h0, hT.total] at h2
      simp only [Option.map_some, Option.getD_some]
      refine ⟨Int.ediv_nonneg (by omega) (by omega), ?_⟩
      have : (up * 23 + dot (tr (d + 1) x) (a.2.map fun b => nextV r.out visits s (stepV r visits s aim tr up d) x b.bed)) / 24 < c + 1 := by
        apply Int.ediv_lt_of_lt_mul (by omega)
        omega
      omega

/-- Whoever aims at an aim of the least worst mean needs no more visits than the upper number, if it is one. -/
theorem enough {r : Rules} (hr : RulesOk r) (hden : r.den = 24) {visits : List Int} {s : Nat} (hs : lowest r.out ≤ s) (hss : s ≤ r.start) {aim : Nat → Int → Nat} {tr : Nat → Int → List Int}
    (ha : ∀ (d : Nat) (x : Int), d < 3 → (d < 2 ∨ x = s) → lowest r.out ≤ x → x ≤ s → ∃ a, r.aims[aim (d + 1) x]? = some a ∧ (val r false (table r false) s (d + 1) x = never ∨ mean false r.den a.2 (a.2.map fun b => nextV r.out (table r false) s (val r false (table r false) s d) x b.bed) = val r false (table r false) s (d + 1) x))
    (ht : ∀ (d : Nat) (x : Int) a, lowest r.out ≤ x → x ≤ s → r.aims[aim d x]? = some a → Tr a.2 24 (tr d x))
    (hv : ∀ x : Int, lowest r.out ≤ x → x ≤ s → 0 ≤ numOf visits x ∧ numOf visits x ≤ numOf (table r false) x) :
    ∀ (d : Nat) (x : Int), d ≤ 3 → (d < 3 ∨ x = s) → lowest r.out ≤ x → x ≤ s → stepV r visits s aim tr 0 d x ≤ val r false (table r false) s d x
  | 0, x, _, _, hx, hxs => (hv x hx hxs).2
  | d + 1, x, hd3, hdx, hx, hxs => by
    have ih := enough hr hden hs hss ha ht hv d
    have hb := lowest_bd r.out
    obtain ⟨a, hai, hmean⟩ := ha d x (by omega) (by omega) hx hxs
    have hm := List.mem_of_getElem? hai
    have hok := hr.aims a hm
    rw [hden] at hok
    have hT := ht (d + 1) x a hx hxs hai
    have hbd := stepV_bd hr hden (c := never) (by unfold never; omega) hs (up := 0) (.inl rfl) ht (fun x hx hxs => ⟨(hv x hx hxs).1, by have := (hv x hx hxs).2; have := (numOf_bd (table_ok r false) x).2; omega⟩)
    rcases hmean with hn | hmean
    · rw [hn]; exact (hbd (d + 1) x hx hxs).2
    by_cases hn : val r false (table r false) s (d + 1) x = never
    · rw [hn]; exact (hbd (d + 1) x hx hxs).2
    rw [← hmean] at hn ⊢
    rw [hden] at hn ⊢
    simp only [stepV, hai, Option.map_some, Option.getD_some]
    have h1 := worst_ge (vs := a.2.map fun b => nextV r.out (table r false) s (val r false (table r false) s d) x b.bed) hok (by omega) (by simp) hn hT
    have h2 := dot_cmp (t := tr (d + 1) x) (v := (a.2.map fun b => nextV r.out (table r false) s (val r false (table r false) s d) x b.bed).map tame) (u := a.2.map fun b => nextV r.out visits s (stepV r visits s aim tr 0 d) x b.bed) (δ := 0) (by simp [hT.length]) (by simp [hT.length]) (fun i c hc => hT.nonneg hok.small hc)
      (fun i c p q hc hp hq hpos => by
        obtain ⟨q, hq', rfl⟩ := get_map hq
        rw [tame_of (mean_nohit (by simp) hn hT hc hq' hpos)]
        simp only [List.getElem?_map, Option.map_eq_some_iff] at hp hq'
        obtain ⟨b, hbb, rfl⟩ := hp
        obtain ⟨b', hb', rfl⟩ := hq'
        rw [hbb] at hb'
        cases hb'
        have hq0 := score_nonneg (beds0 hr a hm b (List.mem_of_getElem? hbb))
        unfold nextV
        split
        · omega
        · split
          · have := (hv s hs (Int.le_refl _)).2; omega
          · have := ih (x - score b.bed) (by omega) (.inl (by omega)) (by omega) (by omega); omega)
    rw [show (0 : Int) * 23 = 0 by omega, Int.zero_add]
    apply ediv_le _ (by omega)
    rw [Int.mul_comm]
    omega

end AimP
