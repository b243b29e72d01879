/- Plain: values of positions and tables compared; no program in sight. -/
import Derived.Test.YtnaehbgmfajdjaaTruth
namespace AimP

theorem score_nonneg {b : Int} (h : 0 ≤ b) : 0 ≤ score b := by
  unfold score
  exact Int.mul_nonneg (by omega) (by omega)

theorem lowest_bd (g : Int) : 1 ≤ lowest g ∧ lowest g ≤ 2 := by unfold lowest; split <;> omega

/-- What is known of both sides of a relation between numbers. -/
structure Rel (R : Int → Int → Prop) : Prop where
  zero : R 0 0
  never : ∀ x, R x never
  less : ∀ x x' y, R x y → 0 ≤ x' → x' ≤ x → x ≤ AimP.never → R x' y

theorem minL_rel {R : Int → Int → Prop} (hR : Rel R) {l1 l2 : List Int} (h1 : ∀ x ∈ l1, 0 ≤ x ∧ x ≤ never) (h : ∀ y ∈ l2, ∃ x ∈ l1, R x y) : R (minL l1) (minL l2) := by
  rcases foldl_min_mem l2 never with h2 | h2
  · unfold minL; rw [h2]; exact hR.never _
  · obtain ⟨x, hx, hr⟩ := h _ h2
    exact hR.less x _ _ hr (minL_bd fun x hx => (h1 x hx).1).1 ((foldl_min_le l1 never).2 x hx) (h1 x hx).2

theorem means_bd {r : Rules} (hr : RulesOk r) {num : List Int} (h : NumOk num) (best : Bool) (s d : Nat) (left : Int) : ∀ x ∈ meansV r best num s (val r best num s d) left, 0 ≤ x ∧ x ≤ never := by
  intro x hx
  obtain ⟨a, ha, rfl⟩ := List.mem_map.1 hx
  have hok := hr.aims a ha
  exact mean_bd hr.den1 hok.small (by simp) hok.lows hok.highs (fun v hv => by
    obtain ⟨b, _, rfl⟩ := List.mem_map.1 hv
    exact nextV_bd h (val_bd hr h best s d) _ _ _ _)

/-- One aim's means compared: the values that stand behind the beds are related. -/
def MeanRel (R : Int → Int → Prop) (b1 b2 : Bool) (den : Int) (M1 : Int → Prop) (a1 a2 : List PBed) : Prop :=
  a1.length = a2.length ∧ (∀ (i : Nat) x y, a1[i]? = some x → a2[i]? = some y → x.bed = y.bed) ∧
    ∀ v1 v2 : List Int, v1.length = a1.length → v2.length = a2.length → (∀ v ∈ v1, 0 ≤ v ∧ v ≤ never ∧ M1 v) → (∀ (i : Nat) x y, v1[i]? = some x → v2[i]? = some y → R x y) → R (mean b1 den a1 v1) (mean b2 den a2 v2)

/-- A position's value, by two rules, sides and tables. M1: what holds of all values of the first side. -/
theorem val_rel {R : Int → Int → Prop} (hR : Rel R) {r1 r2 : Rules} {b1 b2 : Bool} {n1 n2 : List Int} {s : Nat} {M1 : Int → Prop} (h1 : RulesOk r1) (k1 : NumOk n1) (hden : r1.den = r2.den) (hout : r1.out = r2.out)
    (hM0 : M1 0) (hMn : ∀ x, M1 (numOf n1 x)) (hMv : ∀ d x, M1 (val r1 b1 n1 s d x))
    (hb : ∀ a ∈ r2.aims, ∀ x ∈ a.2, 0 ≤ x.bed)
    (hm : ∀ a2 ∈ r2.aims, ∃ a1 ∈ r1.aims, MeanRel R b1 b2 r1.den M1 a1.2 a2.2)
    (hn : ∀ x, lowest r1.out ≤ x → x ≤ s → R (numOf n1 x) (numOf n2 x)) (hs : lowest r1.out ≤ s) :
    ∀ (d : Nat) (x : Int), lowest r1.out ≤ x → x ≤ s → R (val r1 b1 n1 s d x) (val r2 b2 n2 s d x)
  | 0, x, hx, hxs => hn x hx hxs
  | d + 1, x, hx, hxs => by
    have ih := val_rel hR (b1 := b1) (b2 := b2) h1 k1 hden hout hM0 hMn hMv hb hm hn hs d
    simp only [val]
    refine minL_rel hR (means_bd h1 k1 b1 s d x) fun y hy => ?_
    obtain ⟨a2, ha2, rfl⟩ := List.mem_map.1 hy
    obtain ⟨a1, ha1, hl, hbd, hmm⟩ := hm a2 ha2
    refine ⟨_, List.mem_map.2 ⟨a1, ha1, rfl⟩, ?_⟩
    rw [← hden]
    refine hmm _ _ (by simp) (by simp) (fun v hv => ?_) (fun i u v hu hv => ?_)
    · obtain ⟨b, _, rfl⟩ := List.mem_map.1 hv
      have hbd := nextV_bd k1 (val_bd h1 k1 b1 s d) r1.out s x b.bed
      refine ⟨hbd.1, hbd.2, ?_⟩
      unfold nextV
      split
      · exact hM0
      · split
        · exact hMn _
        · exact hMv _ _
    · simp only [List.getElem?_map, Option.map_eq_some_iff] at hu hv
      obtain ⟨p, hp, rfl⟩ := hu
      obtain ⟨q, hq, rfl⟩ := hv
      rw [hbd i p q hp hq, ← hout]
      have hq0 := score_nonneg (hb a2 ha2 q (List.mem_of_getElem? hq))
      unfold nextV
      split
      · exact hR.zero
      · split
        · exact hn s hs (Int.le_refl _)
        · exact ih _ (by omega) (by omega)

/-- A position's value hangs on the numbers up to the start alone. -/
theorem val_congr {r : Rules} {best : Bool} {n1 n2 : List Int} {s : Nat} (hb : ∀ a ∈ r.aims, ∀ x ∈ a.2, 0 ≤ x.bed) (hs : lowest r.out ≤ s) (hn : ∀ x, lowest r.out ≤ x → x ≤ s → numOf n1 x = numOf n2 x) :
    ∀ (d : Nat) (x : Int), lowest r.out ≤ x → x ≤ s → val r best n1 s d x = val r best n2 s d x
  | 0, x, hx, hxs => hn x hx hxs
  | d + 1, x, hx, hxs => by
    have ih := val_congr (best := best) hb hs hn d
    simp only [val, meansV]
    congr 1
    refine List.map_congr_left fun a ha => ?_
    congr 1
    refine List.map_congr_left fun b hbm => ?_
    have hq0 := score_nonneg (hb a ha b hbm)
    unfold nextV
    rw [hn s hs (Int.le_refl _)]
    split
    · rfl
    · split
      · rfl
      · exact ih _ (by omega) (by omega)

theorem Rel_Le {d : Int} (hd : 0 ≤ d) : Rel (Le d) :=
  ⟨.inr ⟨by simp [never], by omega⟩, fun _ => .inl rfl, fun x x' y h h0 hx hn => h.imp id fun ⟨h1, h2⟩ => ⟨by omega, by omega⟩⟩

theorem Rel_Lt {d c : Int} (hd : 0 < d) : Rel (Lt d c) :=
  ⟨.inr ⟨by simp [never], .inl (by omega)⟩, fun _ => .inl rfl, fun x x' y h h0 hx hn => h.imp id fun ⟨h1, h2⟩ => ⟨by omega, by omega⟩⟩

def Any (_ : Int) : Prop := True
def Known (x : Int) : Prop := x < never

theorem meanRel_same {d den : Int} {best : Bool} {a : List PBed} (hok : AimOk den a) (hd : 1 ≤ den) : best = false → MeanRel (Le d) best best den Any a a := by
  rintro rfl
  refine ⟨rfl, fun i x y hx hy => by rw [hx] at hy; cases hy; rfl, fun v1 v2 h1 h2 hv hr => ?_⟩
  exact worst_worst hok hok hd h1 h2 rfl (fun v h => ⟨(hv v h).1, (hv v h).2.1⟩) (fun _ h => h) hr

theorem meanRel_best {d den : Int} {a1 a2 : List PBed} (ok1 : AimOk den a1) (ok2 : AimOk den a2) (hd : 1 ≤ den) (hl : a1.length = a2.length) (hb : ∀ (i : Nat) x y, a1[i]? = some x → a2[i]? = some y → x.bed = y.bed) (hT : ∀ t, Tr a2 den t → Tr a1 den t) : MeanRel (Le d) true true den Known a1 a2 :=
  ⟨hl, hb, fun _ _ h1 h2 hv hr => best_best ok1 ok2 hd h1 h2 (fun v h => ⟨(hv v h).1, (hv v h).2.2⟩) hT hr⟩

theorem meanRel_worst {d den : Int} {a1 a2 : List PBed} (ok1 : AimOk den a1) (ok2 : AimOk den a2) (hd : 1 ≤ den) (hl : a1.length = a2.length) (hb : ∀ (i : Nat) x y, a1[i]? = some x → a2[i]? = some y → x.bed = y.bed) (hT : ∀ t, Tr a1 den t → Tr a2 den t) : MeanRel (Le d) false false den Any a1 a2 :=
  ⟨hl, hb, fun _ _ h1 h2 hv hr => worst_worst ok1 ok2 hd h1 h2 hl (fun v h => ⟨(hv v h).1, (hv v h).2.1⟩) hT hr⟩

theorem meanRel_both {d c den : Int} {a1 a2 : List PBed} (ok1 : AimOk den a1) (ok2 : AimOk den a2) (hd : 1 ≤ den) (hl : a1.length = a2.length) (hb : ∀ (i : Nat) x y, a1[i]? = some x → a2[i]? = some y → x.bed = y.bed) (hT : ∃ t, Tr a1 den t ∧ Tr a2 den t) : MeanRel (Lt d c) true false den Known a1 a2 :=
  ⟨hl, hb, fun _ _ h1 h2 hv hr => best_worst ok1 ok2 hd h1 h2 (fun v h => ⟨(hv v h).1, (hv v h).2.2⟩) hT hr⟩

theorem some_truth {den : Int} {a : List PBed} (ok : AimOk den a) : ∃ t, Tr a den t := exists_tr a den (spans_of ok.small) ok.lows ok.highs

/-! ### Numbers of the best side are known -/

def NumKnown (num : List Int) : Prop := ∀ v ∈ num, 0 ≤ v ∧ v < never

theorem NumKnown.ok {num : List Int} (h : NumKnown num) : NumOk num := fun v hv => ⟨(h v hv).1, Int.le_of_lt (h v hv).2⟩
theorem NumKnown.of {num : List Int} (h : NumKnown num) (x : Int) : 0 ≤ numOf num x ∧ numOf num x < never := by
  unfold numOf
  cases hx : num[x.toNat]? with
  | none => simp [never]
  | some v => exact h v (List.mem_of_getElem? hx)

theorem val_known {r : Rules} (hr : RulesOk r) {num : List Int} (h : NumKnown num) (best : Bool) (s : Nat) : ∀ (d : Nat) (x : Int), val r best num s d x < never
  | 0, x => (h.of x).2
  | d + 1, x => by
    have ih := val_known hr h best s d
    obtain ⟨a, ha⟩ : ∃ a, r.aims[0]? = some a := ⟨r.aims[0]'(by have := hr.len1; omega), by rw [List.getElem?_eq_getElem]⟩
    have hok := hr.aims a (List.mem_of_getElem? ha)
    have hm : mean best r.den a.2 (a.2.map fun b => nextV r.out num s (val r best num s d) x b.bed) ∈ meansV r best num s (val r best num s d) x := List.mem_map.2 ⟨a, List.mem_of_getElem? ha, rfl⟩
    have hv : ∀ v ∈ (a.2.map fun b => nextV r.out num s (val r best num s d) x b.bed), 0 ≤ v ∧ v < never := by
      intro v hv
      obtain ⟨b, _, rfl⟩ := List.mem_map.1 hv
      refine ⟨(nextV_bd h.ok (val_bd hr h.ok best s d) _ _ _ _).1, ?_⟩
      unfold nextV
      split
      · simp [never]
      · split
        · exact (h.of _).2
        · exact ih _
    have h1 := mean_tame (best := best) hok hr.den1 (by simp) hv
    have h2 := (means_bd hr h.ok best s d x _ hm).2
    have h3 := (foldl_min_le (meansV r best num s (val r best num s d) x) never).2 _ hm
    simp only [val, minL]
    omega

/-! ### One number turned -/

theorem numOf_set (num : List Int) (s : Nat) (hs : s < num.length) (v x : Int) (hx : 0 ≤ x) : numOf (num.set s v) x = if x = s then v else numOf num x := by
  unfold numOf
  by_cases h : x = s
  · rw [if_pos h]
    have : x.toNat = s := by omega
    rw [this]; simp [hs]
  · rw [if_neg h, List.getElem?_set_ne (by omega)]

theorem beds0 {r : Rules} (hr : RulesOk r) : ∀ a ∈ r.aims, ∀ x ∈ a.2, 0 ≤ x.bed := fun a ha x hx => ((hr.aims a ha).beds x hx).1

/-- With a number that is greater by d, a position's value is greater by no more than d. -/
theorem val_more {r : Rules} (hr : RulesOk r) {num : List Int} (h : NumOk num) {best : Bool} (hk : best = true → NumKnown num) {s : Nat} (hs : s < num.length) (hls : lowest r.out ≤ s) {u v : Int} (hu : 0 ≤ u) (huv : u ≤ v) (hv : v < never) (d : Nat) (x : Int) (hx : lowest r.out ≤ x) (hxs : x ≤ s) :
    Le (v - u) (val r best (num.set s v) s d x) (val r best (num.set s u) s d x) := by
  have hl := lowest_bd r.out
  have hn : ∀ x, lowest r.out ≤ x → x ≤ s → Le (v - u) (numOf (num.set s v) x) (numOf (num.set s u) x) := by
    intro x hx hxs
    rw [numOf_set num s hs v x (by omega), numOf_set num s hs u x (by omega)]
    split
    · exact .inr ⟨by omega, by omega⟩
    · by_cases e : numOf num x = never
      · exact .inl e
      · exact .inr ⟨e, by omega⟩
  have hset : NumOk (num.set s v) := numOk_set h ⟨by omega, by omega⟩ s
  cases best with
  | false =>
    exact val_rel (Rel_Le (by omega)) (M1 := Any) hr hset rfl rfl trivial (fun _ => trivial) (fun _ _ => trivial) (beds0 hr) (fun a ha => ⟨a, ha, meanRel_same (hr.aims a ha) hr.den1 rfl⟩) hn hls d x hx hxs
  | true =>
    have hks : NumKnown (num.set s v) := by
      intro y hy
      rcases List.mem_or_eq_of_mem_set hy with hy | rfl
      · exact hk rfl y hy
      · exact ⟨by omega, hv⟩
    exact val_rel (Rel_Le (by omega)) (M1 := Known) hr hset rfl rfl (by simp [Known, never]) (fun x => (hks.of x).2) (fun d x => val_known hr hks true s d x) (beds0 hr)
      (fun a ha => ⟨a, ha, meanRel_best (hr.aims a ha) (hr.aims a ha) hr.den1 rfl (fun i x y hx hy => by rw [hx] at hy; cases hy; rfl) (fun _ h => h)⟩) hn hls d x hx hxs

/-! ### What a table's numbers are -/

theorem fillTo_num (r : Rules) (best : Bool) : ∀ (k : Nat) (x : Nat), numOf (fillTo r best k) x = if (lowest r.out).toNat ≤ x ∧ x < (lowest r.out).toNat + k ∧ x ≤ r.start then fillN r best (fillTo r best (x - (lowest r.out).toNat)) x else 0
  | 0, x => by
    rw [if_neg (by omega)]
    simp only [numOf, fillTo, List.getElem?_replicate, Int.toNat_natCast]
    split <;> rfl
  | k + 1, x => by
    have ih := fillTo_num r best k x
    by_cases hx : x = (lowest r.out).toNat + k
    · by_cases hs : x ≤ r.start
      · rw [if_pos ⟨by omega, by omega, hs⟩]
        rw [fillTo, hx]
        have : (lowest r.out).toNat + k < (fillTo r best k).length := by rw [fillTo_length]; omega
        simp only [numOf, Int.toNat_natCast, List.getElem?_set_self this, Option.getD_some, Nat.add_sub_cancel_left]
      · rw [if_neg (by omega)]
        unfold numOf
        rw [Int.toNat_natCast, List.getElem?_eq_none (by rw [fillTo_length]; omega)]
        rfl
    · rw [fillTo]
      have : numOf ((fillTo r best k).set ((lowest r.out).toNat + k) (fillN r best (fillTo r best k) ((lowest r.out).toNat + k))) x = numOf (fillTo r best k) x := by
        unfold numOf
        rw [Int.toNat_natCast, List.getElem?_set_ne (by omega)]
      rw [this, ih]
      by_cases h : (lowest r.out).toNat ≤ x ∧ x < (lowest r.out).toNat + k ∧ x ≤ r.start
      · rw [if_pos h, if_pos ⟨h.1, by omega, h.2.2⟩]
      · rw [if_neg h, if_neg (by omega)]

theorem table_num (r : Rules) (best : Bool) (x : Nat) (hx : lowest r.out ≤ x) (hxs : x ≤ r.start) : numOf (table r best) x = fillN r best (fillTo r best (x - (lowest r.out).toNat)) x := by
  unfold table nScores
  rw [fillTo_num, if_pos ⟨by omega, by omega, hxs⟩]

theorem table_low (r : Rules) (best : Bool) (x : Nat) (hx : (x : Int) < lowest r.out) : numOf (table r best) x = 0 := by
  unfold table
  rw [fillTo_num, if_neg (by omega)]

/-- The table with one number turned, as the search for this number sees it. -/
theorem table_set_val {r : Rules} (hr : RulesOk r) (best : Bool) (s : Nat) (hs : lowest r.out ≤ s) (hss : s ≤ r.start) (v : Int) (d : Nat) (x : Int) (hx : lowest r.out ≤ x) (hxs : x ≤ s) :
    val r best ((fillTo r best (s - (lowest r.out).toNat)).set s v) s d x = val r best ((table r best).set s v) s d x := by
  have hl := lowest_bd r.out
  refine val_congr (beds0 hr) hs (fun y hy hys => ?_) d x hx hxs
  obtain ⟨y, rfl⟩ : ∃ n : Nat, y = n := ⟨y.toNat, by omega⟩
  rw [numOf_set _ _ (by rw [fillTo_length]; omega) _ _ (by omega), numOf_set _ _ (by rw [table_length]; omega) _ _ (by omega)]
  split
  · rfl
  · rw [table_num r best y hy (by omega), fillTo_num, if_pos ⟨by omega, by omega, by omega⟩]

theorem table_set_self (r : Rules) (best : Bool) (s : Nat) (hss : s ≤ r.start) : (table r best).set s (numOf (table r best) s) = table r best := by
  have h : s < (table r best).length := by rw [table_length]; omega
  apply List.ext_getElem?
  intro i
  by_cases hi : s = i
  · subst hi
    rw [List.getElem?_set_self h]
    simp [numOf, h]
  · rw [List.getElem?_set_ne hi]

/-- What is so up to some number, and not from there on: the search finds the first place. -/
theorem search_mono {n : Nat} (p : Nat → Bool) (hn : n < 2 ^ 40) (hm : ∀ i j, i ≤ j → j ≤ n → p i = true → p j = true) :
    search n p ≤ n ∧ (∀ i, i < search n p → p i = false) ∧ (∀ i, search n p ≤ i → i < n → p i = true) := by
  obtain ⟨h1, h2, h3⟩ := search_spec p hn
  refine ⟨h1, fun i hi => ?_, fun i hi hin => ?_⟩
  · rcases h2 with h2 | h2
    · omega
    · cases h : p i with
      | false => rfl
      | true => rw [hm i (search n p - 1) (by omega) (by omega) h] at h2; cases h2
  · rcases h3 with h3 | h3
    · omega
    · exact hm _ i hi (by omega) h3

section
variable {r : Rules} (hr : RulesOk r) {s : Nat} (hs : lowest r.out ≤ s) (hss : s ≤ r.start)

theorem fillTo_known (k : Nat) : NumKnown (fillTo r true k) := by
  induction k with
  | zero =>
    intro v hv
    rw [fillTo] at hv
    have := List.eq_of_mem_replicate hv
    subst this
    simp [never]
  | succ k ih =>
    intro v hv
    rw [fillTo] at hv
    rcases List.mem_or_eq_of_mem_set hv with hv | rfl
    · exact ih v hv
    · unfold fillN
      rw [if_pos rfl]
      have := (search_spec (n := 1000000000) (fun j => !holds r true ((fillTo r true k).set ((lowest r.out).toNat + k) ((j : Int) + 1)) ((lowest r.out).toNat + k)) (by decide)).1
      unfold never
      omega

theorem table_known : NumKnown (table r true) := fillTo_known _

include hr hs hss in
/-- The lower number: its inequality holds, and that of no greater one. -/
theorem lower_spec : whole ≤ numOf (table r true) s ∧ numOf (table r true) s ≤ maxV ∧ numOf (table r true) s ≤ whole + val r true (table r true) s 3 s ∧
    ∀ n : Int, numOf (table r true) s < n → n ≤ maxV → whole + val r true ((table r true).set s n) s 3 s < n := by
  have hl := lowest_bd r.out
  obtain ⟨F, hF⟩ : ∃ F, F = fillTo r true (s - (lowest r.out).toNat) := ⟨_, rfl⟩
  obtain ⟨p, hp⟩ : ∃ p : Nat → Bool, p = fun k : Nat => !holds r true (F.set s ((k : Int) + 1)) s := ⟨_, rfl⟩
  have hlen : s < F.length := by rw [hF, fillTo_length]; omega
  have hN : numOf (table r true) s = (search 1000000000 p : Nat) := by
    rw [table_num r true s hs hss, ← hF, fillN, if_pos rfl, hp]
  have hpv : ∀ k : Nat, p k = decide (whole + val r true ((table r true).set s ((k : Int) + 1)) s 3 s < (k : Int) + 1) := by
    intro k
    have hv := table_set_val hr true s hs hss ((k : Int) + 1) 3 s hs (Int.le_refl _)
    rw [← hF] at hv
    rw [hp]
    simp only [holds, if_true, hv, numOf_set F s hlen _ _ (show (0 : Int) ≤ s by omega)]
    rw [← decide_not]
    exact decide_eq_decide.2 (by omega)
  have hm : ∀ i j, i ≤ j → j ≤ 1000000000 → p i = true → p j = true := by
    intro i j hij hj hi
    rw [hpv] at hi ⊢
    rw [decide_eq_true_eq] at hi ⊢
    have hvm := val_more hr (table_known (r := r)).ok (best := true) (fun _ => table_known) (s := s) (by rw [table_length]; omega) hs (u := (i : Int) + 1) (v := (j : Int) + 1) (by omega) (by omega) (by unfold never; omega) 3 s hs (Int.le_refl _)
    rcases hvm with h | ⟨_, h⟩
    · rw [h] at hi; unfold whole never at hi; omega
    · omega
  obtain ⟨h1, h2, h3⟩ := search_mono p (n := 1000000000) (by decide) hm
  have hself := table_set_self r true s hss
  have hval := fun num (h : NumOk num) => (val_bd hr h true s 3 s).1
  have hw : whole ≤ numOf (table r true) s := by
    rw [hN]
    rcases Int.lt_or_le (search 1000000000 p : Nat) whole with h | h
    · exfalso
      have h4 := h3 _ (Nat.le_refl _) (by unfold whole at h; omega)
      rw [hpv, decide_eq_true_eq] at h4
      have := hval ((table r true).set s ((search 1000000000 p : Nat) + 1)) (numOk_set (table_ok r true) ⟨by omega, by unfold never; omega⟩ s)
      omega
    · exact h
  refine ⟨hw, by rw [hN]; unfold maxV; omega, ?_, ?_⟩
  · have h4 := h2 (search 1000000000 p - 1) (by rw [hN] at hw; unfold whole at hw; omega)
    rw [hpv, decide_eq_false_iff_not] at h4
    have e : (((search 1000000000 p - 1 : Nat) : Int) + 1) = numOf (table r true) s := by rw [hN] at hw ⊢; unfold whole at hw; omega
    rw [e, hself] at h4
    omega
  · intro n hn hnm
    rw [hN] at hn
    have h4 := h3 (n - 1).toNat (by omega) (by unfold maxV at hnm; omega)
    rw [hpv, decide_eq_true_eq] at h4
    rw [show (((n - 1).toNat : Int) + 1) = n by omega] at h4
    exact h4

include hr hs hss in
/-- The upper number: its inequality holds, and that of no smaller one. -/
theorem upper_spec : whole ≤ numOf (table r false) s ∧ (numOf (table r false) s = never ∨ (numOf (table r false) s ≤ maxV ∧ whole + val r false (table r false) s 3 s ≤ numOf (table r false) s)) ∧
    ∀ n : Int, whole ≤ n → n < numOf (table r false) s → n ≤ maxV → n < whole + val r false ((table r false).set s n) s 3 s := by
  have hl := lowest_bd r.out
  obtain ⟨F, hF⟩ : ∃ F, F = fillTo r false (s - (lowest r.out).toNat) := ⟨_, rfl⟩
  obtain ⟨p, hp⟩ : ∃ p : Nat → Bool, p = fun k : Nat => holds r false (F.set s (whole + (k : Int))) s := ⟨_, rfl⟩
  have hlen : s < F.length := by rw [hF, fillTo_length]; omega
  have hN : numOf (table r false) s = if whole + (search 999000001 p : Nat) > maxV then never else whole + (search 999000001 p : Nat) := by
    rw [table_num r false s hs hss, ← hF, fillN, if_neg (by simp), hp]
  have hpv : ∀ k : Nat, k ≤ 999000001 → p k = decide (whole + val r false ((table r false).set s (whole + (k : Int))) s 3 s ≤ whole + (k : Int)) := by
    intro k hk
    have hv := table_set_val hr false s hs hss (whole + (k : Int)) 3 s hs (Int.le_refl _)
    rw [← hF] at hv
    rw [hp]
    simp only [holds, Bool.false_eq_true, if_false, hv, numOf_set F s hlen _ _ (show (0 : Int) ≤ s by omega), if_true]
    exact decide_eq_decide.2 (by unfold whole never; omega)
  have hm : ∀ i j, i ≤ j → j ≤ 999000001 → p i = true → p j = true := by
    intro i j hij hj hi
    rw [hpv _ (by omega)] at hi
    rw [hpv _ hj]
    rw [decide_eq_true_eq] at hi ⊢
    have hvm := val_more hr (table_ok r false) (best := false) (fun h => by cases h) (s := s) (by rw [table_length]; omega) hs (u := whole + (i : Int)) (v := whole + (j : Int)) (by unfold whole; omega) (by omega) (by unfold whole never; omega) 3 s hs (Int.le_refl _)
    rcases hvm with h | ⟨_, h⟩
    · rw [h] at hi; unfold whole never at hi; omega
    · omega
  obtain ⟨h1, h2, h3⟩ := search_mono p (n := 999000001) (by decide) hm
  have hself := table_set_self r false s hss
  have hlow : ∀ n : Int, whole ≤ n → n < whole + (search 999000001 p : Nat) → n < whole + val r false ((table r false).set s n) s 3 s := by
    intro n hn hn2
    have h4 := h2 (n - whole).toNat (by omega)
    rw [hpv _ (by omega), decide_eq_false_iff_not] at h4
    rw [show whole + ((n - whole).toNat : Int) = n by omega] at h4
    omega
  by_cases hbig : whole + ((search 999000001 p : Nat) : Int) > maxV
  · rw [if_pos hbig] at hN
    refine ⟨by rw [hN]; unfold whole never; omega, .inl hN, fun n hn _ hnm => hlow n hn (by omega)⟩
  · rw [if_neg hbig] at hN
    refine ⟨by omega, .inr ⟨by omega, ?_⟩, fun n hn hnN _ => hlow n hn (by omega)⟩
    have h4 := h3 _ (Nat.le_refl _) (by unfold whole maxV at hbig; omega)
    rw [hpv _ h1, decide_eq_true_eq, ← hN, hself] at h4
    omega

end

end AimP
