/- The listed aims of all positions, as AimEnough keeps them: what is known of them, the array they lie in, and the function that reads it. -/
import Derived.Test.YtnaehbgmfajdjaaMin
import Derived.Test.YtnaehbgmfajdjaaLawPure
import Derived.Test.YtnaehbgmfajdjaaLay
import Derived.Test.YtnaehbgmfajdjaaOrd
namespace Go.Proofs.Ytnaehbgmfajdjaa
open Go.RowKit AimP

/-- At a position the aim that is kept is one with the least worst mean; or there is none. -/
def Good (r : Rules) (lst : Nat → Nat → Nat → Nat) (s d x : Nat) : Prop :=
  ∃ a, r.aims[lst s d x]? = some a ∧ (val r false (table r false) s d x = never ∨ mean false r.den a.2 (a.2.map fun b => nextV r.out (table r false) s (val r false (table r false) s (d - 1)) x b.bed) = val r false (table r false) s d x)

/-- All positions ahead of one are kept. -/
def DoneTo (r : Rules) (lst : Nat → Nat → Nat → Nat) (s d x : Nat) : Prop :=
  ∀ s' d' x', PosOk r s' x' d' → (s' < s ∨ s' = s ∧ (d' < d ∨ d' = d ∧ x' < x)) → Good r lst s' d' x'

theorem minL_is {l : List Int} {m : Int} (h : m ∈ l) (hl : ∀ x ∈ l, m ≤ x) (hn : m ≤ never) : minL l = m := by
  have h1 := (foldl_min_le l never).2 m h
  rcases foldl_min_mem l never with h2 | h2
  · unfold minL; rw [h2] at h1 ⊢; omega
  · have := hl _ h2
    unfold minL
    omega

theorem listed_good {r : Rules} (hr : RulesOk r) {s x d : Nat} (hp : PosOk r s x d) {a m : Int} (h : listed r s x d a m) (lst : Nat → Nat → Nat → Nat) (hl : if m = never then lst s d x = 0 else (lst s d x : Int) = a) : Good r lst s d x := by
  obtain ⟨j, rfl, hj, hm, hle, -⟩ := h
  have hnum := table_ok r false
  have hd := hp.d0
  obtain ⟨d, rfl⟩ : ∃ e, d = e + 1 := ⟨d - 1, by omega⟩
  have hlen : (meansAt r false s x (d + 1)).length = r.aims.length := by unfold meansAt meansV; simp
  have hbd := fun y hy => means_bd hr hnum false s d x y hy
  have hmean : ∀ i (hi : i < r.aims.length), (meansAt r false s x (d + 1))[i]? = some (mean false r.den (r.aims[i]).2 ((r.aims[i]).2.map fun b => nextV r.out (table r false) s (val r false (table r false) s d) x b.bed)) := by
    intro i hi
    unfold meansAt meansV
    simp [hi]
  have hval : val r false (table r false) s (d + 1) x = minL (meansAt r false s x (d + 1)) := rfl
  have hmem : m ∈ meansAt r false s x (d + 1) := by
    rw [hmean j hj] at hm
    simp only [Option.getD_some] at hm
    rw [← hm]
    exact List.mem_of_getElem? (hmean j hj)
  have hmin : minL (meansAt r false s x (d + 1)) = m := by
    refine minL_is hmem (fun y hy => ?_) (hbd m hmem).2
    obtain ⟨i, hi⟩ := List.getElem?_of_mem hy
    have hil := (List.getElem?_eq_some_iff.1 hi).1
    rw [hlen] at hil
    have := hle i hil
    rwa [hi] at this
  by_cases hmn : m = never
  · rw [if_pos hmn] at hl
    refine ⟨r.aims[0]'(by have := hr.len1; omega), ?_, .inl ?_⟩
    · rw [hl]; simp
    · rw [hval, hmin, hmn]
  · rw [if_neg hmn] at hl
    have hlj : lst s (d + 1) x = j := by omega
    refine ⟨r.aims[j], ?_, .inr ?_⟩
    · rw [hlj]; simp
    · rw [hval, hmin, ← hm, hmean j hj]
      rfl

theorem DoneTo.mono {r : Rules} {lst : Nat → Nat → Nat → Nat} {s d x s2 d2 x2 : Nat} (h : DoneTo r lst s d x) (hs : ∀ s' d' x', PosOk r s' x' d' → (s' < s2 ∨ s' = s2 ∧ (d' < d2 ∨ d' = d2 ∧ x' < x2)) → (s' < s ∨ s' = s ∧ (d' < d ∨ d' = d ∧ x' < x))) : DoneTo r lst s2 d2 x2 :=
  fun s' d' x' hp h' => h s' d' x' hp (hs s' d' x' hp h')

/-- A list of three indices, turned at one place. -/
def setL (lst : Nat → Nat → Nat → Nat) (s d x v : Nat) : Nat → Nat → Nat → Nat := fun s' d' x' => if s' = s ∧ d' = d ∧ x' = x then v else lst s' d' x'

theorem DoneTo.set {r : Rules} {lst : Nat → Nat → Nat → Nat} {s d x v : Nat} (h : DoneTo r lst s d x) (hg : Good r (setL lst s d x v) s d x) : DoneTo r (setL lst s d x v) s d (x + 1) := by
  intro s' d' x' hp h'
  by_cases he : s' = s ∧ d' = d ∧ x' = x
  · obtain ⟨rfl, rfl, rfl⟩ := he
    exact hg
  · have hk : setL lst s d x v s' d' x' = lst s' d' x' := if_neg he
    have := h s' d' x' hp (by omega)
    unfold Good at this ⊢
    rw [hk]
    exact this

theorem setL_lt {lst : Nat → Nat → Nat → Nat} {s d x v n : Nat} (h : ∀ s d x, lst s d x < n) (hv : v < n) : ∀ s' d' x', setL lst s d x v s' d' x' < n := by
  intro s' d' x'
  unfold setL
  split
  · exact hv
  · exact h _ _ _

/-- What `enough` asks of the aims of a start. -/
theorem good_all {r : Rules} {lst : Nat → Nat → Nat → Nat} {s0 : Nat} (h : DoneTo r lst s0 0 0) {s : Nat} (hs0 : s < s0) (hs : lowest r.out ≤ s) (hss : s ≤ r.start) (d : Nat) (x : Int) (hd : d < 3) (hdx : d < 2 ∨ x = s) (hx : lowest r.out ≤ x) (hxs : x ≤ s) :
    ∃ a, r.aims[lst s (d + 1) x.toNat]? = some a ∧ (val r false (table r false) s (d + 1) x = never ∨ mean false r.den a.2 (a.2.map fun b => nextV r.out (table r false) s (val r false (table r false) s d) x b.bed) = val r false (table r false) s (d + 1) x) := by
  have hb := lowest_bd r.out
  obtain ⟨n, rfl⟩ : ∃ n : Nat, x = n := ⟨x.toNat, by omega⟩
  rw [Int.toNat_natCast]
  exact h s (d + 1) n ⟨hs, hss, hx, by omega, by omega, by omega, by omega⟩ (by omega)

/-- The array of the listed aims. -/
def Held (W : World) (LB : Nat) (lst : Nat → Nat → Nat → Nat) : Prop :=
  ∃ a : Array Value, W.heap[LB]? = some (.cells a 40 (0, 0)) ∧ a.size = 100 ∧ ∀ s d x, s < 5 → d < 4 → x < 5 → a[s * 20 + d * 5 + x]? = some (.int .i64 (lst s d x))

theorem Held.cell {W : World} {LB : Nat} {lst : Nat → Nat → Nat → Nat} (h : Held W LB lst) {s d x : Nat} (hs : s < 5) (hd : d < 4) (hx : x < 5) : W.cell? ⟨LB, s * 20 + d * 5 + x, none⟩ = some (.int .i64 (lst s d x)) := by
  obtain ⟨a, h1, h2, h3⟩ := h
  simp [World.cell?, h1, h3 s d x hs hd hx]

theorem Held.free {W : World} {LB : Nat} {lst : Nat → Nat → Nat → Nat} (h : Held W LB lst) (o : Nat) : W.frozen? ⟨LB, o, none⟩ = false := by
  obtain ⟨a, h1, h2, h3⟩ := h
  simp [World.frozen?, h1]

theorem Held.same {W W' : World} {LB : Nat} {lst : Nat → Nat → Nat → Nat} (h : Held W LB lst) (hb : W'.heap[LB]? = W.heap[LB]?) : Held W' LB lst := by
  obtain ⟨a, h1, h2, h3⟩ := h
  exact ⟨a, hb.trans h1, h2, h3⟩

theorem Held.lt {W : World} {LB : Nat} {lst : Nat → Nat → Nat → Nat} (h : Held W LB lst) : LB < W.heap.size := by
  obtain ⟨a, h1, _⟩ := h
  exact lt_of_block h1

theorem Held.set {W : World} {LB : Nat} {lst : Nat → Nat → Nat → Nat} (h : Held W LB lst) {s d x v : Nat} (hs : s < 5) (hd : d < 4) (hx : x < 5) : Held (W.setCell ⟨LB, s * 20 + d * 5 + x, none⟩ (.int .i64 v)) LB (setL lst s d x v) := by
  obtain ⟨a, h1, h2, h3⟩ := h
  refine ⟨a.setIfInBounds (s * 20 + d * 5 + x) (.int .i64 v), setCell_block h1, by simp [h2], fun s' d' x' hs' hd' hx' => ?_⟩
  rw [Array.getElem?_setIfInBounds]
  by_cases he : s' = s ∧ d' = d ∧ x' = x
  · obtain ⟨rfl, rfl, rfl⟩ := he
    rw [if_pos rfl, if_pos (by omega)]
    simp [setL]
  · rw [if_neg (by omega), h3 s' d' x' hs' hd' hx']
    simp [setL, he]

set_option maxRecDepth 100000 in
theorem zeros40 : Try.zeroCells40 = Array.replicate 100 (.int .i64 0) := by kernel_rfl

/-- A new block's cells stored into it once more. -/
theorem store_same (P : Program) (w : World) (cs : Array Value) (t : TypeId) (n : Nat) (hn : n = w.heap.size) (h1 : ∀ v ∈ cs.toList, v.oneCell' = true) :
    (storeCells ⟨n, 0, none⟩ cs.toList).run P (w.alloc (.cells cs t)) = .ok () (w.alloc (.cells cs t)) := by
  subst hn
  have hg : (w.alloc (.cells cs t)).heap[w.heap.size]? = some (.cells cs t (0, 0)) := World.alloc_heap_new _ _
  rw [run_storeCells_at (P := P) w.heap.size 0 t cs.toList 0 cs _ hg (by simp) h1]
  have : (cs.toList.take (0 + 0) ++ cs.toList ++ cs.toList.drop (0 + 0 + cs.toList.length)).toArray = cs := by rw [List.drop_eq_nil_of_le (by simp)]; simp
  rw [this, setRow_self _ _ _ _ _ hg]

theorem held_new (w : World) : Held (w.alloc (.cells Try.zeroCells40 40)) w.heap.size (fun _ _ _ => 0) := by
  rw [zeros40]
  refine ⟨_, World.alloc_heap_new _ _, by simp, fun s d x hs hd hx => ?_⟩
  rw [Array.getElem?_replicate, if_pos (by omega)]
  rfl

set_option maxRecDepth 100000 in
set_option maxHeartbeats 1000000 in
theorem enough1_any (LB SB : Nat) (lst : Nat → Nat → Nat → Nat) (s d x : Nat) (w : World) (hs : s < 5) (hd : d < 4) (hx : x < 5) (hL : Held w LB lst) (hS : w.cell? ⟨SB, 0, none⟩ = some (.int .i64 s)) :
    Calls Try.prog 18 #[.int .i64 x, .int .i64 d, .pointer (some ⟨LB, 0, none⟩), .pointer (some ⟨SB, 0, none⟩)] w fun e w' => e = .returned (.int .i64 (lst s d x)) ∧ Below w.heap.size w w' := by
  have hc := hL.cell hs hd hx
  clear hL
  go_enter Try.func18, Try.ntmps18
  go_wp2_with fail
  go_ret
  exact ⟨rfl, ⟨rfl, rfl, rfl, Nat.le_refl _, fun _ _ => rfl⟩⟩

/-- What Aim returns, as AimEnough keeps it. -/
theorem aimL_any (R : Rules) (ba ca s x d : Nat) (lst : Nat → Nat → Nat → Nat) (w : World) (hr : RulesOk R) (hf : LawFull R.den R.aims) (hA : AimsAt w.heap.size w ba 0 R.aims) (hp : PosOk R s x d) :
    Calls Try.prog 16 #[rulesV R ba 0 ca, .agg #[.int .i64 (s : Int), .int .i64 (x : Int), .int .i64 (d : Int)]] w fun e w' => ∃ (j : Nat) (m ev : Int), e = .returned (.tuple #[.int .i64 j, .int .i64 m, .int .i64 ev]) ∧ (ev = 0 ∨ ev = 7 ∧ j = 0) ∧ j < R.aims.length ∧ Good R (setL lst s d x j) s d x ∧ Below w.heap.size w w' := by
  refine (aim_any R ba 0 ca s x d w hr hf hA hp).mono ?_
  rintro e w' ⟨⟨a, m, hl, he⟩, hb⟩
  obtain ⟨j, hj, hjn, -⟩ := id hl
  have hk : ∀ v, setL lst s d x v s d x = v := fun v => by simp [setL]
  rcases he with ⟨hm, rfl⟩ | ⟨hm, rfl⟩
  · exact ⟨0, 0, 7, rfl, .inr ⟨rfl, rfl⟩, by have := hr.len1; omega, listed_good hr hp hl _ (by rw [if_pos hm, hk]), hb⟩
  · exact ⟨j, m, 0, by rw [hj], .inl rfl, hjn, listed_good hr hp hl _ (by rw [if_neg hm, hk, hj]), hb⟩

end Go.Proofs.Ytnaehbgmfajdjaa
