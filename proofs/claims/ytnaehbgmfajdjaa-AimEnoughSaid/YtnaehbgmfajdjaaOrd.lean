/- A region that draws its order, walked in one order: what only reads is taken first where nobody in the region's head writes it; the last operations, each of which waits for all before it, may write what was read. -/
import Derived.Deep.RegionHeld
import Derived.StillTail
namespace Go.Proofs.Ytnaehbgmfajdjaa

section
variable {P : Program} {ops : Array Oper} {Q : Exit → Act → World → Prop} {md : Region.Mode} {S : World → Prop} {n : Nat}

/-- Whatever order is picked from here on, and S holds behind every operation of the head. -/
def wpAnyT (P : Program) (md : Region.Mode) (ops : Array Oper) (Q : Exit → Act → World → Prop) (S : World → Prop) (n : Nat) : Nat → Array Bool → Act → World → Prop
  | 0, listed, a, w => Region.ready md ops listed = [] ∧ Q .normal a w
  | fuel + 1, listed, a, w =>
    (Region.ready md ops listed = [] → Q .normal a w) ∧
    ∀ i ∈ Region.ready md ops listed, wpOp P ops Q i (fun a' w' => (i < n → S w') ∧ wpAnyT P md ops Q S n fuel (listed.setIfInBounds i true) a' w') a w

theorem wpAny_of_T : ∀ (fuel : Nat) (listed : Array Bool) (a : Act) (w : World), wpAnyT P md ops Q S n fuel listed a w → wpAny P md ops Q fuel listed a w
  | 0, _, _, _, h => h
  | fuel + 1, _, _, _, h => ⟨h.1, fun i hi => wpOp_mono (fun a' w' h' => wpAny_of_T fuel _ a' w' h'.2) (h.2 i hi)⟩

theorem head_only (hs : (Region.sinkB md ops n || decide (ops.size ≤ n)) = true) (hc : Region.chainB md ops n = true) {listed : Array Bool} (inv : HeadInv md ops n listed) {i j : Nat} (hin : i < n) (hun : listed.getD i true = false) (hj : j ∈ Region.ready md ops listed) : j < n := by
  obtain ⟨_, oj, hoj, _⟩ := mem_ready.1 hj
  have hjs : j < ops.size := (Array.getElem?_eq_some_iff.1 hoj).1
  rcases Nat.lt_or_ge j n with h | h
  · exact h
  · rw [Bool.or_eq_true, decide_eq_true_eq] at hs
    rcases hs with hs | hs
    · exact absurd hj (tail_waits hs hc (by omega) inv _ i rfl hin hun j h)
    · omega

theorem wpAnyT_first {i : Nat} {oi : Oper} {v : Value} (hi : ops[i]? = some oi) (hsel : ∀ (j : Nat) (o : Oper) cs b, ops[j]? = some o → o.op ≠ .select cs b)
    (hs : (Region.sinkB md ops n || decide (ops.size ≤ n)) = true) (hc : Region.chainB md ops n = true) (hin : i < n) (hQ : ∀ c a w, Q (.panic c) (a.put oi.dst v) w → Q (.panic c) a w) :
    ∀ (fuel : Nat) (listed : Array Bool) (a : Act) (w : World), HeadInv md ops n listed →
      (∀ j oj, ops[j]? = some oj → j ≠ i → listed.getD j true = false → (∀ e ∈ oj.after, Region.binds md e = true → e.on ≠ i) → oi.apart ops oj = true) →
      i ∈ Region.ready md ops listed → YieldsIf P ops S oi v a → S w →
      wpAnyT P md ops Q S n fuel (listed.setIfInBounds i true) (a.put oi.dst v) w → wpAnyT P md ops Q S n (fuel + 1) listed a w := by
  intro fuel
  induction fuel with
  | zero =>
    intro listed a w inv _ hr hy hS H
    refine ⟨fun h => (by rw [h] at hr; cases hr), fun j hj => ?_⟩
    by_cases hji : j = i
    · subst hji; exact hy.wpOp hi hS ⟨fun _ => hS, H⟩
    · have := ready_mono hj hji
      rw [H.1] at this
      cases this
  | succ fuel ih =>
    intro listed a w inv hfree hr hy hS H
    have hun := (mem_ready.1 hr).1
    refine ⟨fun h => (by rw [h] at hr; cases hr), fun j hj => ?_⟩
    by_cases hji : j = i
    · subst hji; exact hy.wpOp hi hS ⟨fun _ => hS, H⟩
    · have hjn := head_only hs hc inv hin hun hj
      have h1 := H.2 j (ready_mono hj hji)
      obtain ⟨hjun, oj, hoj, hall⟩ := mem_ready.1 hj
      have hnot : ∀ e ∈ oj.after, Region.binds md e = true → e.on ≠ i := fun e he hb heq => by
        have h1 := hall e he hb
        rw [heq, getD_both hun] at h1
        cases h1
      have h2 := wpOp_putIf hoj (hfree j oj hoj hji hjun hnot) (fun cs b => hsel i oi cs b hi) (fun cs b => hsel j oj cs b hoj) hQ hy h1
      have hfree' : ∀ k ok, ops[k]? = some ok → k ≠ i → (listed.setIfInBounds j true).getD k true = false →
          (∀ e ∈ ok.after, Region.binds md e = true → e.on ≠ i) → oi.apart ops ok = true := fun k ok hk hki hun hno => by
        refine hfree k ok hk hki ?_ hno
        by_cases hjk : j = k
        · subst hjk; exact hjun
        · rw [getD_set_ne true hjk] at hun; exact hun
      refine wpOp_mono (fun a' w' h3 => ⟨fun _ => h3.2.1 hjn, ih (listed.setIfInBounds j true) a' w' (inv.set hj hjn) hfree' (ready_mono hr (Ne.symm hji)) h3.1 (h3.2.1 hjn) ?_⟩) h2
      rw [Array.setIfInBounds_comm _ _ hji]
      exact h3.2.2

/-- An order: 0: taken first; 1: the only one that may come up, in the head; 2: .. in the tail. -/
def ordB (md : Region.Mode) (ops : Array Oper) (n : Nat) : List (Nat × Nat) → Array Bool → Bool
  | [], listed => (Region.ready md ops listed).isEmpty
  | (0, i) :: r, listed => decide (i < n) && (Region.ready md ops listed).contains i && Region.free md ops listed i && ordB md ops n r (listed.setIfInBounds i true)
  | (1, i) :: r, listed => decide (i < n) && decide (Region.ready md ops listed = [i]) && ordB md ops n r (listed.setIfInBounds i true)
  | (_ + 2, i) :: r, listed => decide (n ≤ i) && decide (Region.ready md ops listed = [i]) && r.all (fun x => decide (2 ≤ x.1)) && ordB md ops n r (listed.setIfInBounds i true)

/-- The operations in this order. -/
def wpOrd (P : Program) (ops : Array Oper) (Q : Exit → Act → World → Prop) (S : World → Prop) : List (Nat × Option Oper) → Act → World → Prop
  | [], a, w => Q .normal a w
  | (0, some o) :: r, a, w => ∃ v, YieldsIf P ops S o v a ∧ (∀ c a w, Q (.panic c) (a.put o.dst v) w → Q (.panic c) a w) ∧ wpOrd P ops Q S r (a.put o.dst v) w
  | (1, some o) :: r, a, w => if Region.wanted o (yielded ops a.tmps) = true then Oper.wp P o a w (fun a' w' => S w' ∧ wpOrd P ops Q S r a' w') Q else S w ∧ wpOrd P ops Q S r (a.put o.dst undef) w
  | (_ + 2, some o) :: r, a, w => if Region.wanted o (yielded ops a.tmps) = true then Oper.wp P o a w (wpOrd P ops Q S r) Q else wpOrd P ops Q S r (a.put o.dst undef) w
  | _, _, _ => False

def opsOf (l : List Oper) (ord : List (Nat × Nat)) : List (Nat × Option Oper) := ord.map fun x => (x.1, l[x.2]?)

theorem wpOp_of_if {i : Nat} {o : Oper} (ho : ops[i]? = some o) {K : Act → World → Prop} {a : Act} {w : World} (h : if Region.wanted o (yielded ops a.tmps) = true then Oper.wp P o a w K Q else K (a.put o.dst undef) w) : wpOp P ops Q i K a w := by
  unfold wpOp
  simp only [ho]
  split
  · rename_i hw; rw [if_pos hw] at h; exact .inl h
  · rename_i hw; rw [if_neg hw] at h; exact h

theorem ord_sound {l : List Oper} (hsel : Region.noSelect l.toArray = true) (hs : (Region.sinkB md l.toArray n || decide (l.toArray.size ≤ n)) = true) (hc : Region.chainB md l.toArray n = true) :
    ∀ (ord : List (Nat × Nat)) (listed : Array Bool) (a : Act) (w : World), HeadInv md l.toArray n listed ∨ ord.all (fun x => decide (2 ≤ x.1)) = true → S w ∨ ord.all (fun x => decide (2 ≤ x.1)) = true → ordB md l.toArray n ord listed = true →
      wpOrd P l.toArray Q S (opsOf l ord) a w → wpAnyT P md l.toArray Q S n ord.length listed a w
  | [], listed, a, w, _, _, hB, h => ⟨by simpa [ordB] using hB, h⟩
  | (0, i) :: r, listed, a, w, inv, hS, hB, h => by
    simp only [ordB, Bool.and_eq_true, decide_eq_true_eq] at hB
    obtain ⟨⟨⟨hin, hr⟩, hf⟩, hB'⟩ := hB
    have inv' := inv.resolve_right (by simp)
    have hS' := hS.resolve_right (by simp)
    have hr' : i ∈ Region.ready md l.toArray listed := by simpa using hr
    obtain ⟨_, oi, hoi, _⟩ := mem_ready.1 hr'
    have hoi' : l[i]? = some oi := by simpa using hoi
    simp only [opsOf, List.map_cons, hoi', wpOrd] at h
    obtain ⟨v, hy, hQ, h⟩ := h
    exact wpAnyT_first hoi (Region.noSelect_spec hsel) hs hc hin hQ _ _ _ _ inv' (Region.free_spec hoi hf) hr' hy hS'
      (ord_sound hsel hs hc r _ _ _ (.inl (inv'.set hr' hin)) (.inl hS') hB' h)
  | (1, i) :: r, listed, a, w, inv, hS, hB, h => by
    simp only [ordB, Bool.and_eq_true, decide_eq_true_eq] at hB
    obtain ⟨⟨hin, hr⟩, hB'⟩ := hB
    have inv' := inv.resolve_right (by simp)
    have hr' : i ∈ Region.ready md l.toArray listed := by rw [hr]; simp
    obtain ⟨_, oi, hoi, _⟩ := mem_ready.1 hr'
    have hoi' : l[i]? = some oi := by simpa using hoi
    simp only [opsOf, List.map_cons, hoi', wpOrd] at h
    refine ⟨fun h0 => (by rw [hr] at h0; cases h0), fun j hj => ?_⟩
    rw [hr] at hj
    have hji : j = i := by simpa using hj
    subst hji
    exact wpOp_mono (fun a' w' h' => ⟨fun _ => h'.1, ord_sound hsel hs hc r _ _ _ (.inl (inv'.set hr' hin)) (.inl h'.1) hB' h'.2⟩) (wpOp_of_if (K := fun a' w' => S w' ∧ wpOrd P l.toArray Q S (opsOf l r) a' w') hoi h)
  | (m + 2, i) :: r, listed, a, w, inv, hS, hB, h => by
    simp only [ordB, Bool.and_eq_true, decide_eq_true_eq] at hB
    obtain ⟨⟨⟨hin, hr⟩, hall⟩, hB'⟩ := hB
    have hr' : i ∈ Region.ready md l.toArray listed := by rw [hr]; simp
    obtain ⟨_, oi, hoi, _⟩ := mem_ready.1 hr'
    have hoi' : l[i]? = some oi := by simpa using hoi
    simp only [opsOf, List.map_cons, hoi', wpOrd] at h
    refine ⟨fun h0 => (by rw [hr] at h0; cases h0), fun j hj => ?_⟩
    rw [hr] at hj
    have hji : j = i := by simpa using hj
    subst hji
    exact wpOp_mono (fun a' w' h' => ⟨fun hlt => absurd hlt (by omega), ord_sound hsel hs hc r _ _ _ (.inr hall) (.inr hall) hB' h'⟩) (wpOp_of_if (K := wpOrd P l.toArray Q S (opsOf l r)) hoi h)

/-- A region that draws its order, in one order. -/
theorem wp_region_ord {id : Nat} {a : Act} {w : World} {l : List Oper} (S : World → Prop) (n : Nat) (ord : List (Nat × Nat)) (hm : P.follows .mixedOrders = true)
    (hB : (Region.noSelect l.toArray && (Region.sinkB .any l.toArray n || decide (l.toArray.size ≤ n)) && Region.chainB .any l.toArray n && decide (ord.length = l.toArray.size) && ordB .any l.toArray n ord (Array.replicate l.toArray.size false)) = true)
    (hS : S w.drew) (h : wpOrd P l.toArray Q S (opsOf l ord) a w.drew) : (Code.region id l.toArray true).wp P Q a w := by
  simp only [Bool.and_eq_true] at hB
  obtain ⟨⟨⟨⟨hsel, hs⟩, hc⟩, hlen⟩, hord⟩ := hB
  rw [decide_eq_true_eq] at hlen
  have inv0 : HeadInv .any l.toArray n (Array.replicate l.toArray.size false) :=
    ⟨by simp, fun j oj _ hl => (by rw [getD_replicate_false] at hl; cases hl), fun t _ ht => getD_in (by simpa using ht) (getD_replicate_false _ _)⟩
  refine wp_region_any hm ?_
  have := ord_sound (P := P) (Q := Q) (S := S) hsel hs hc ord _ a w.drew (.inl inv0) (.inl hS) hord h
  rw [hlen] at this
  exact wpAny_of_T _ _ _ _ this

theorem wpOrd_take {o : Oper} {r : List (Nat × Option Oper)} {a : Act} {w : World} {v : Value} (hw : Region.wanted o (yielded ops a.tmps) = true) (hy : ∀ W, S W → (execOp a.eval o).run P W = .ok (.value v) W)
    (hQ : ∀ c a w, Q (.panic c) (a.put o.dst v) w → Q (.panic c) a w) (h : wpOrd P ops Q S r (a.put o.dst v) w) : wpOrd P ops Q S ((0, some o) :: r) a w := ⟨v, .inl ⟨hw, hy⟩, hQ, h⟩
theorem wpOrd_done {a : Act} {w : World} (h : Q .normal a w) : wpOrd P ops Q S [] a w := h
/-- An operation whose guard says no. -/
theorem wpOrd_pass {o : Oper} {r : List (Nat × Option Oper)} {a : Act} {w : World} (hw : Region.wanted o (yielded ops a.tmps) = false)
    (hQ : ∀ c a w, Q (.panic c) (a.put o.dst undef) w → Q (.panic c) a w) (h : wpOrd P ops Q S r (a.put o.dst undef) w) : wpOrd P ops Q S ((0, some o) :: r) a w := ⟨undef, .inr ⟨hw, rfl⟩, hQ, h⟩
theorem wpOrd_eff {o : Oper} {r : List (Nat × Option Oper)} {a : Act} {w : World}
    (h : ∀ K : Act → World → Prop, Shut (∀ a w, S w → wpOrd P ops Q S r a w → K a w) → if Region.wanted o (yielded ops a.tmps) = true then Oper.wp P o a w K Q else K (a.put o.dst undef) w) : wpOrd P ops Q S ((1, some o) :: r) a w :=
  h (fun a' w' => S w' ∧ wpOrd P ops Q S r a' w') (fun _ _ h1 h2 => ⟨h1, h2⟩)
theorem wpOrd_tail {o : Oper} {r : List (Nat × Option Oper)} {a : Act} {w : World}
    (h : ∀ K : Act → World → Prop, Shut (∀ a w, wpOrd P ops Q S r a w → K a w) → if Region.wanted o (yielded ops a.tmps) = true then Oper.wp P o a w K Q else K (a.put o.dst undef) w) : wpOrd P ops Q S ((2, some o) :: r) a w :=
  h (wpOrd P ops Q S r) (fun _ _ h => h)


/-! ### Where two operations may come up: a plan -/

inductive Plan where
  | done : Plan
  | take : Nat → Plan → Plan
  | one : Nat → Plan → Plan
  | two : Nat → Plan → Nat → Plan → Plan
  | more : Plan → Plan
  | tail : Nat → Plan → Plan

def Plan.late : Plan → Bool
  | .done => true
  | .tail _ p => p.late
  | _ => false

def planB (md : Region.Mode) (ops : Array Oper) (n : Nat) : Plan → Nat → Array Bool → Bool
  | .done, _, listed => (Region.ready md ops listed).isEmpty
  | .take i p, f + 1, listed => decide (i < n) && (Region.ready md ops listed).contains i && Region.free md ops listed i && planB md ops n p f (listed.setIfInBounds i true)
  | .one i p, f + 1, listed => decide (i < n) && decide (Region.ready md ops listed = [i]) && planB md ops n p f (listed.setIfInBounds i true)
  | .two i p j q, f + 1, listed => decide (i < n) && decide (j < n) && decide (Region.ready md ops listed = [i, j]) && planB md ops n p f (listed.setIfInBounds i true) && planB md ops n q f (listed.setIfInBounds j true)
  | .more p, f, listed => planB md ops n p f listed
  | .tail i p, f + 1, listed => decide (n ≤ i) && decide (Region.ready md ops listed = [i]) && p.late && planB md ops n p f (listed.setIfInBounds i true)
  | _, 0, _ => false

def opIf (P : Program) (ops : Array Oper) (Q : Exit → Act → World → Prop) (o : Option Oper) (K : Act → World → Prop) (a : Act) (w : World) : Prop :=
  match o with
  | some o => if Region.wanted o (yielded ops a.tmps) = true then Oper.wp P o a w K Q else K (a.put o.dst undef) w
  | none => False

def wpPlan (P : Program) (ops : Array Oper) (l : List Oper) (Q : Exit → Act → World → Prop) : (World → Prop) → Plan → Act → World → Prop
  | _, .done, a, w => Q .normal a w
  | S, .take i p, a, w => ∃ o v, l[i]? = some o ∧ YieldsIf P ops S o v a ∧ (∀ c a w, Q (.panic c) (a.put o.dst v) w → Q (.panic c) a w) ∧ wpPlan P ops l Q S p (a.put o.dst v) w
  | S, .one i p, a, w => opIf P ops Q l[i]? (fun a' w' => S w' ∧ wpPlan P ops l Q S p a' w') a w
  | S, .two i p j q, a, w => opIf P ops Q l[i]? (fun a' w' => S w' ∧ wpPlan P ops l Q S p a' w') a w ∧ opIf P ops Q l[j]? (fun a' w' => S w' ∧ wpPlan P ops l Q S q a' w') a w
  | S, .more p, a, w => ∃ S' : World → Prop, (∀ W, S' W → S W) ∧ S' w ∧ wpPlan P ops l Q S' p a w
  | S, .tail i p, a, w => opIf P ops Q l[i]? (wpPlan P ops l Q S p) a w

theorem wpAnyT_mono {S' : World → Prop} (h : ∀ W, S' W → S W) : ∀ (fuel : Nat) (listed : Array Bool) (a : Act) (w : World), wpAnyT P md ops Q S' n fuel listed a w → wpAnyT P md ops Q S n fuel listed a w
  | 0, _, _, _, H => H
  | fuel + 1, _, _, _, H => ⟨H.1, fun i hi => wpOp_mono (fun a' w' h' => ⟨fun hin => h _ (h'.1 hin), wpAnyT_mono h fuel _ a' w' h'.2⟩) (H.2 i hi)⟩

theorem wpOp_of_opIf {i : Nat} {o : Oper} {l : List Oper} (ho : l.toArray[i]? = some o) {K : Act → World → Prop} {a : Act} {w : World} (h : opIf P l.toArray Q l[i]? K a w) : wpOp P l.toArray Q i K a w := by
  have ho' : l[i]? = some o := by simpa using ho
  rw [ho'] at h
  exact wpOp_of_if ho h

theorem plan_sound {l : List Oper} (hsel : Region.noSelect l.toArray = true) (hs : (Region.sinkB md l.toArray n || decide (l.toArray.size ≤ n)) = true) (hc : Region.chainB md l.toArray n = true) :
    ∀ (p : Plan) (S : World → Prop) (fuel : Nat) (listed : Array Bool) (a : Act) (w : World), HeadInv md l.toArray n listed ∨ p.late = true → S w ∨ p.late = true → planB md l.toArray n p fuel listed = true →
      wpPlan P l.toArray l Q S p a w → wpAnyT P md l.toArray Q S n fuel listed a w := by
  intro p
  induction p with
  | done =>
    intro S fuel listed a w _ _ hB h
    have h0 : Region.ready md l.toArray listed = [] := by simpa [planB] using hB
    cases fuel with
    | zero => exact ⟨h0, h⟩
    | succ f => exact ⟨fun _ => h, by rw [h0]; simp⟩
  | take i p ih =>
    intro S fuel listed a w inv hS hB h
    cases fuel with
    | zero => simp [planB] at hB
    | succ f =>
      simp only [planB, Bool.and_eq_true, decide_eq_true_eq] at hB
      obtain ⟨⟨⟨hin, hr⟩, hf⟩, hB'⟩ := hB
      have inv' := inv.resolve_right (by simp [Plan.late])
      have hS' := hS.resolve_right (by simp [Plan.late])
      have hr' : i ∈ Region.ready md l.toArray listed := by simpa using hr
      obtain ⟨o, v, ho, hy, hQ, h⟩ := h
      have ho' : l.toArray[i]? = some o := by simpa using ho
      exact wpAnyT_first ho' (Region.noSelect_spec hsel) hs hc hin hQ _ _ _ _ inv' (Region.free_spec ho' hf) hr' hy hS' (ih S f _ _ _ (.inl (inv'.set hr' hin)) (.inl hS') hB' h)
  | one i p ih =>
    intro S fuel listed a w inv hS hB h
    cases fuel with
    | zero => simp [planB] at hB
    | succ f =>
      simp only [planB, Bool.and_eq_true, decide_eq_true_eq] at hB
      obtain ⟨⟨hin, hr⟩, hB'⟩ := hB
      have inv' := inv.resolve_right (by simp [Plan.late])
      have hr' : i ∈ Region.ready md l.toArray listed := by rw [hr]; simp
      obtain ⟨_, oi, hoi, _⟩ := mem_ready.1 hr'
      refine ⟨fun h0 => (by rw [hr] at h0; cases h0), fun j hj => ?_⟩
      rw [hr] at hj
      have hji : j = i := by simpa using hj
      subst hji
      exact wpOp_mono (fun a' w' h' => ⟨fun _ => h'.1, ih S f _ _ _ (.inl (inv'.set hr' hin)) (.inl h'.1) hB' h'.2⟩) (wpOp_of_opIf hoi h)
  | two i p j q ihp ihq =>
    intro S fuel listed a w inv hS hB h
    cases fuel with
    | zero => simp [planB] at hB
    | succ f =>
      simp only [planB, Bool.and_eq_true, decide_eq_true_eq] at hB
      obtain ⟨⟨⟨⟨hin, hjn⟩, hr⟩, hB'⟩, hB''⟩ := hB
      have inv' := inv.resolve_right (by simp [Plan.late])
      have hri : i ∈ Region.ready md l.toArray listed := by rw [hr]; simp
      have hrj : j ∈ Region.ready md l.toArray listed := by rw [hr]; simp
      obtain ⟨_, oi, hoi, _⟩ := mem_ready.1 hri
      obtain ⟨_, oj, hoj, _⟩ := mem_ready.1 hrj
      refine ⟨fun h0 => (by rw [hr] at h0; cases h0), fun k hk => ?_⟩
      rw [hr] at hk
      have hk2 : k = i ∨ k = j := by simpa using hk
      by_cases hki : k = i
      · subst hki
        exact wpOp_mono (fun a' w' h' => ⟨fun _ => h'.1, ihp S f _ _ _ (.inl (inv'.set hri hin)) (.inl h'.1) hB' h'.2⟩) (wpOp_of_opIf hoi h.1)
      · have hkj : k = j := hk2.resolve_left hki
        subst hkj
        exact wpOp_mono (fun a' w' h' => ⟨fun _ => h'.1, ihq S f _ _ _ (.inl (inv'.set hrj hjn)) (.inl h'.1) hB'' h'.2⟩) (wpOp_of_opIf hoj h.2)
  | more p ih =>
    intro S fuel listed a w inv hS hB h
    obtain ⟨S', h1, h2, h3⟩ := h
    have inv' := inv.resolve_right (by simp [Plan.late])
    exact wpAnyT_mono h1 _ _ _ _ (ih S' fuel listed a w (.inl inv') (.inl h2) (by cases fuel <;> simpa [planB] using hB) h3)
  | tail i p ih =>
    intro S fuel listed a w inv hS hB h
    cases fuel with
    | zero => simp [planB] at hB
    | succ f =>
      simp only [planB, Bool.and_eq_true, decide_eq_true_eq] at hB
      obtain ⟨⟨⟨hin, hr⟩, hall⟩, hB'⟩ := hB
      have hr' : i ∈ Region.ready md l.toArray listed := by rw [hr]; simp
      obtain ⟨_, oi, hoi, _⟩ := mem_ready.1 hr'
      refine ⟨fun h0 => (by rw [hr] at h0; cases h0), fun j hj => ?_⟩
      rw [hr] at hj
      have hji : j = i := by simpa using hj
      subst hji
      exact wpOp_mono (fun a' w' h' => ⟨fun hlt => absurd hlt (by omega), ih S f _ _ _ (.inr hall) (.inr hall) hB' h'⟩) (wpOp_of_opIf hoi h)

/-- A region that draws its order, by a plan. -/
theorem wp_region_plan {id : Nat} {a : Act} {w : World} {l : List Oper} (S : World → Prop) (n : Nat) (p : Plan) (hm : P.follows .mixedOrders = true)
    (hB : (Region.noSelect l.toArray && (Region.sinkB .any l.toArray n || decide (l.toArray.size ≤ n)) && Region.chainB .any l.toArray n && planB .any l.toArray n p l.toArray.size (Array.replicate l.toArray.size false)) = true)
    (hS : S w.drew) (h : wpPlan P l.toArray l Q S p a w.drew) : (Code.region id l.toArray true).wp P Q a w := by
  simp only [Bool.and_eq_true] at hB
  obtain ⟨⟨⟨hsel, hs⟩, hc⟩, hord⟩ := hB
  have inv0 : HeadInv .any l.toArray n (Array.replicate l.toArray.size false) :=
    ⟨by simp, fun j oj _ hl => (by rw [getD_replicate_false] at hl; cases hl), fun t _ ht => getD_in (by simpa using ht) (getD_replicate_false _ _)⟩
  refine wp_region_any hm ?_
  exact wpAny_of_T _ _ _ _ (plan_sound (P := P) (Q := Q) hsel hs hc p S _ _ a w.drew (.inl inv0) (.inl hS) hord h)

section
variable {l : List Oper} {p q : Plan} {a : Act} {w : World} {i j : Nat}
theorem plan_take {o : Oper} {v : Value} (ho : l[i]? = some o) (hw : Region.wanted o (yielded ops a.tmps) = true) (hy : ∀ W, S W → (execOp a.eval o).run P W = .ok (.value v) W)
    (hQ : ∀ c a w, Q (.panic c) (a.put o.dst v) w → Q (.panic c) a w) (h : wpPlan P ops l Q S p (a.put o.dst v) w) : wpPlan P ops l Q S (.take i p) a w := ⟨o, v, ho, .inl ⟨hw, hy⟩, hQ, h⟩
theorem plan_one {o : Oper} (ho : l[i]? = some o)
    (h : ∀ K : Act → World → Prop, Shut (∀ a w, S w → wpPlan P ops l Q S p a w → K a w) → if Region.wanted o (yielded ops a.tmps) = true then Oper.wp P o a w K Q else K (a.put o.dst undef) w) : wpPlan P ops l Q S (.one i p) a w := by
  have := h (fun a' w' => S w' ∧ wpPlan P ops l Q S p a' w') (fun _ _ h1 h2 => ⟨h1, h2⟩)
  simpa only [wpPlan, ho, opIf] using this
theorem plan_two {o o' : Oper} (ho : l[i]? = some o) (ho' : l[j]? = some o')
    (h : ∀ K : Act → World → Prop, Shut (∀ a w, S w → wpPlan P ops l Q S p a w → K a w) → if Region.wanted o (yielded ops a.tmps) = true then Oper.wp P o a w K Q else K (a.put o.dst undef) w)
    (h' : ∀ K : Act → World → Prop, Shut (∀ a w, S w → wpPlan P ops l Q S q a w → K a w) → if Region.wanted o' (yielded ops a.tmps) = true then Oper.wp P o' a w K Q else K (a.put o'.dst undef) w) : wpPlan P ops l Q S (.two i p j q) a w := by
  refine ⟨?_, ?_⟩
  · have := h (fun a' w' => S w' ∧ wpPlan P ops l Q S p a' w') (fun _ _ h1 h2 => ⟨h1, h2⟩)
    simpa only [ho, opIf] using this
  · have := h' (fun a' w' => S w' ∧ wpPlan P ops l Q S q a' w') (fun _ _ h1 h2 => ⟨h1, h2⟩)
    simpa only [ho', opIf] using this
theorem plan_more (S' : World → Prop) (h1 : ∀ W, S' W → S W) (h2 : S' w) (h : wpPlan P ops l Q S' p a w) : wpPlan P ops l Q S (.more p) a w := ⟨S', h1, h2, h⟩
theorem plan_tail {o : Oper} (ho : l[i]? = some o)
    (h : ∀ K : Act → World → Prop, Shut (∀ a w, wpPlan P ops l Q S p a w → K a w) → if Region.wanted o (yielded ops a.tmps) = true then Oper.wp P o a w K Q else K (a.put o.dst undef) w) : wpPlan P ops l Q S (.tail i p) a w := by
  have := h (wpPlan P ops l Q S p) (fun _ _ h => h)
  simpa only [wpPlan, ho, opIf] using this
theorem plan_done (h : Q .normal a w) : wpPlan P ops l Q S .done a w := h
end

end
end Go.Proofs.Ytnaehbgmfajdjaa
