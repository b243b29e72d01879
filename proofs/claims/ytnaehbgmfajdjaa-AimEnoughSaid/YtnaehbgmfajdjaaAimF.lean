/- (visit).means and (visit).value of package aim: the values of positions. -/
import Derived.Test.YtnaehbgmfajdjaaAimE
import Derived.Test.YtnaehbgmfajdjaaRange
namespace Go.Proofs.Ytnaehbgmfajdjaa
open Go.RowKit AimP

/-- The mean of an aim at a position. -/
def meanAt (r : Rules) (best : Bool) (num : List Int) (s : Nat) (V : Int → Int) (left : Int) (k : Nat) : Int := ((meansV r best num s V left)[k]?).getD 0

/-- What the iterator over the aims needs. -/
structure MeansG (bv bt s : Nat) (r : Rules) (best : Bool) (ba oa ca bn cn : Nat) (num : List Int) (V : Nat → Int → Int) (d left Bx : Nat) (W : World) : Prop where
  tab : TabAt bv W bt r best ba oa ca bn cn num
  vis : VisAt W bv bt s V
  b0 : W.cell? ⟨Bx, 0, none⟩ = some (.pointer (some ⟨bv, 0, none⟩))
  b1 : W.cell? ⟨Bx + 1, 0, none⟩ = some (.int .i64 (left : Int))
  b2 : W.cell? ⟨Bx + 1 + 1, 0, none⟩ = some (.int .i64 ((d : Int) + 1))

def MeansOwn (bv bt s : Nat) (V : Nat → Int → Int) (W W' : World) : Prop := But bv W.heap.size W W' ∧ VisAt W' bv bt s V

attribute [local go_sem] Oper.semAt_some

set_option maxRecDepth 100000 in
set_option maxHeartbeats 1000000 in
theorem means_iter (bv bt s : Nat) (r : Rules) (best : Bool) (ba oa ca bn cn : Nat) (num : List Int) (V : Nat → Int → Int) (d left Bx : Nat)
    (hd : d ≤ 2) (hleft : left ≤ s) (hsn : s < num.length) (hr : RulesOk r) (hs60 : s ≤ r.start) (hV : ValOk bv bt s r best ba oa ca bn cn num V d)
    (hN : ∀ b : Int, 0 ≤ nextV r.out num s (V d) left b ∧ nextV r.out num s (V d) left b ≤ 2000000000) :
    Iter Try.prog 139 #[] #[.pointer (some ⟨Bx, 0, none⟩), .pointer (some ⟨Bx + 1, 0, none⟩), .pointer (some ⟨Bx + 1 + 1, 0, none⟩)] r.aims.length
      (fun k => #[.int .i64 (k : Int), .int .i64 (meanAt r best num s (V d) left k)]) (MeansG bv bt s r best ba oa ca bn cn num V d left Bx) (MeansOwn bv bt s V) := by
  intro l J Jx hG hOwn hY W hJ
  have HG := Lib.hid hG
  have HOWN := Lib.hid hOwn
  have HY := Lib.hid hY
  have hlen := hr.len
  have hmean := fun (k : Nat) (aim : Int × List PBed) (W : World) (h1 : r.aims[k]? = some aim) (h2 : TabAt bv W bt r best ba oa ca bn cn num) (h3 : VisAt W bv bt s V) =>
    mean_any bv bt s r best ba oa ca bn cn num V d left k aim (meanAt r best num s (V d) left k) W hd hleft hsn hr hs60 h1 hV (fun b _ => hN b.bed) h2 h3 (by simp [meanAt, meansV, h1])
  have HM := Lib.hid hmean
  obtain ⟨M, hM⟩ : ∃ M : Nat → Int, meanAt r best num s (V d) left = M := ⟨_, rfl⟩
  rw [hM] at HM HY
  have g := hG 0 W hJ
  have g0 := g.b0
  have g1 := g.vis.c0
  have g2 := g.tab.c1
  have HJ := Lib.hid hJ
  clear hG hOwn hY hV hN hmean hM g hJ hr
  rw [Array.empty_append]
  refine callsIn_of_wp Try.func139 rfl trivial ?_ rfl
  simp only [Try.ntmps139, List.size_toArray, List.length_cons, List.length_nil, Nat.reduceAdd, Nat.reduceSub, Array.replicate_succ, Array.replicate_zero, List.push_toArray, List.append_toArray, List.nil_append, List.cons_append]
  gi_wp2
  gi_loopw [16] (fun vk wr => ∃ k : Nat, k ≤ r.aims.length ∧ vk = .int .i64 k ∧ Hid (J k wr)) (fun vk _ => r.aims.length - (intOf vk).toNat)
  case atStart => exact ⟨0, by omega, rfl, HJ.out⟩
  case round =>
    obtain ⟨k, hk, rfl, hJk⟩ := hrel
    by_cases hkt : k < r.aims.length
    · obtain ⟨aim, haim⟩ : ∃ a, r.aims[k]? = some a := ⟨r.aims[k], by simp [hkt]⟩
      have g := HG.out k wr hJk.out
      have q0 := g.b0
      have q1 := g.b1
      have q2 := g.b2
      have hcall := HM.out k aim wr haim g.tab g.vis
      have HC := Lib.hid hcall
      clear haim g hcall
      gi_wp2_with fail
      refine ⟨trivial, rfl, callsIn_wide.2 (HC.out.mono ?_)⟩
      rintro e w2 ⟨rfl, hb2, hv2⟩
      have hJ2 := HOWN.out k wr w2 hJk.out ⟨hb2, hv2⟩
      obtain ⟨fn, tmps, assign, body, hy, hR⟩ := HY.out k w2 hkt hJ2
      have HRR := Lib.hid hR
      clear hb2 hv2 hR
      gi_wp2
      refine ⟨rfl, HRR.out.mono ?_⟩
      rintro e W3 (⟨rfl, hJ3⟩ | ⟨rfl, hJx3⟩)
      · gi_wp2
        go_roundw
        case rel => exact ⟨k + 1, by omega, by go_num, hJ3⟩
        case measure => simp [intOf]; omega
      · gi_wp2
        refine bodyPost_ret (results_none rfl _ _ _) rfl ?_
        exact ⟨⟨_, rfl⟩, .inr ⟨k + 1, hkt, hJx3⟩⟩
    · obtain rfl : k = r.aims.length := by omega
      gi_wp2
      go_end0
      exact ⟨⟨_, rfl⟩, .inl hJk.out⟩

set_option maxRecDepth 100000 in
set_option maxHeartbeats 1000000 in
theorem value_succ (bv bt s : Nat) (r : Rules) (best : Bool) (ba oa ca bn cn : Nat) (num : List Int) (d : Nat)
    (hd : d ≤ 2) (hsn : s < num.length) (hr : RulesOk r) (hs60 : s ≤ r.start) (hnum : NumOk num)
    (hV : ValOk bv bt s r best ba oa ca bn cn num (fun d x => val r best num s d x) d) : ValOk bv bt s r best ba oa ca bn cn num (fun d x => val r best num s d x) (d + 1) := by
  intro x w hx0 hxs hT hI
  have hst := hr.start
  obtain ⟨V, hVV⟩ : ∃ V : Nat → Int → Int, (fun d x => val r best num s d x) = V := ⟨_, rfl⟩
  have hV0 : ∀ d x, val r best num s d x = V d x := fun d x => by rw [← hVV]
  rw [hVV] at hV hI ⊢
  have hbd := fun (d : Nat) (x : Int) => val_bd hr hnum best s d x
  simp only [hV0] at hbd
  have hsucc : V (d + 1) x = minL (meansV r best num s (V d) x) := by rw [← hV0, ← hVV]; rfl
  have hx2 : 0 ≤ (x : Int) := by omega
  have hit := means_iter bv bt s r best ba oa ca bn cn num V d x
  obtain ⟨k, hk, hk2⟩ := hI.known (d + 1) x (by omega) (by omega)
  have HBD := Lib.hid hbd
  have HK2 := Lib.hid hk2
  have HSU := Lib.hid hsucc
  have HT := Lib.hid hT
  have HI := Lib.hid hI
  have HV := Lib.hid hV
  have HR := Lib.hid hr
  have HNUM := Lib.hid hnum
  have HIT := Lib.hid hit
  have hbz := hI.lt
  have hd0 : ((d : Int) + 1 == 0) = false := by rw [beq_eq_false_iff_ne]; omega
  have hfree := hI.free
  have HFR := Lib.hid hfree
  clear hVV hV0 hbd hk2 hsucc hT hI hV hr hnum hit hfree
  show Calls Try.prog 102 #[.pointer (some ⟨bv, 0, none⟩), .int .i64 (x : Int), .int .i64 ((d + 1 : Nat) : Int)] w _
  rw [show ((d + 1 : Nat) : Int) = (d : Int) + 1 by omega]
  by_cases hk0 : 0 < k
  · have hkb : k ≤ 2000000001 := by
      have := (HBD.out (d + 1) x).2
      unfold never at this
      rcases HK2.out with h | h <;> omega
    refine calls_marks Try.func102 rfl ?_
    simp only [Try.ntmps102, List.size_toArray, List.length_cons, List.length_nil, Nat.reduceAdd, Nat.reduceSub, Array.replicate_succ, Array.replicate_zero, List.push_toArray, List.append_toArray, List.nil_append, List.cons_append]
    go_wp2_with fail
    refine Or.inl ⟨rfl, .int .i64 (k - 1), by simp [results, Try.results102, go_sem], ?_, ?_, ?_⟩
    · rcases HK2.out with h | h
      · omega
      · rw [h]; exact ret_int (by omega)
    · exact (But.refl _ _ _).alloc (Nat.le_refl _) _
    · exact HI.out.below ((Below.refl _ _).alloc (Nat.le_refl _) _) hbz
  · have hkz : k = 0 ∨ k < 0 := by omega
    obtain rfl : k = 0 := by
      rcases HK2.out with h | h
      · exact h
      · have := HBD.out (d + 1) x; omega
    refine calls_marks Try.func102 rfl ?_
    simp only [Try.ntmps102, List.size_toArray, List.length_cons, List.length_nil, Nat.reduceAdd, Nat.reduceSub, Array.replicate_succ, Array.replicate_zero, List.push_toArray, List.append_toArray, List.nil_append, List.cons_append]
    go_wp2_with fail
    go_wp2_with (go_in)
    obtain ⟨wA, hwA⟩ : ∃ wA, (((w.alloc (Obj.cells #[Value.int IntKind.i64 2000000000] 3)).alloc (Obj.cells #[Value.pointer (some ⟨bv, 0, none⟩)] 192)).alloc (Obj.cells #[Value.int IntKind.i64 (x : Int)] 3)).alloc (Obj.cells #[Value.int IntKind.i64 ((d : Int) + 1)] 3) = wA := ⟨_, rfl⟩
    rw [hwA]
    have z : wA.heap.size = w.heap.size + 1 + 1 + 1 + 1 := by rw [← hwA]; simp
    have a0 : wA.cell? ⟨w.heap.size, 0, none⟩ = some (.int .i64 never) := by
      rw [← hwA, cell_old _ _ _ (by simp <;> omega), cell_old _ _ _ (by simp <;> omega), cell_old _ _ _ (by simp), cell_new _ _ _ _ _ _ rfl]; rfl
    have af : wA.frozen? ⟨w.heap.size, 0, none⟩ = false := by
      rw [← hwA, frozen_old _ _ _ (by simp <;> omega), frozen_old _ _ _ (by simp <;> omega), frozen_old _ _ _ (by simp), frozen_new _ _ _ _ _ rfl]
    have a1 : wA.cell? ⟨w.heap.size + 1, 0, none⟩ = some (.pointer (some ⟨bv, 0, none⟩)) := by rw [← hwA, cell_old _ _ _ (by simp <;> omega), cell_old _ _ _ (by simp), cell_new _ _ _ _ _ _ (by simp)]; rfl
    have a2 : wA.cell? ⟨w.heap.size + 1 + 1, 0, none⟩ = some (.int .i64 (x : Int)) := by rw [← hwA, cell_old _ _ _ (by simp), cell_new _ _ _ _ _ _ (by simp)]; rfl
    have a3 : wA.cell? ⟨w.heap.size + 1 + 1 + 1, 0, none⟩ = some (.int .i64 ((d : Int) + 1)) := by rw [← hwA, cell_new _ _ _ _ _ _ (by simp)]; rfl
    have ab : Below w.heap.size w wA := by rw [← hwA]; exact ((((Below.refl _ w).alloc (Nat.le_refl _) _).alloc (by simp) _).alloc (by simp <;> omega) _).alloc (by simp <;> omega) _
    clear hwA
    obtain ⟨M, hM⟩ : ∃ M : Nat → Int, meanAt r best num s (V d) x = M := ⟨_, rfl⟩
    obtain ⟨ms, hms⟩ : ∃ ms, meansV r best num s (V d) x = ms := ⟨_, rfl⟩
    have hIT := HIT.out (w.heap.size + 1) hd hxs hsn HR.out hs60 HV.out (fun b => nextV_bd HNUM.out (fun y => HBD.out d y) _ _ _ _)
    rw [hM] at hIT
    have hml : ms.length = r.aims.length := by rw [← hms]; simp [meansV]
    have hMk : ∀ k, k < r.aims.length → ms[k]? = some (M k) := by
      intro k hk
      rw [← hM, ← hms]
      unfold meanAt
      rw [List.getElem?_eq_getElem (by rw [hms, hml]; exact hk)]
      rfl
    refine wp_range (gf := 139) (fst := #[]) (cap := #[.pointer (some ⟨w.heap.size + 1, 0, none⟩), .pointer (some ⟨w.heap.size + 1 + 1, 0, none⟩), .pointer (some ⟨w.heap.size + 1 + 1 + 1, 0, none⟩)]) rfl (enters_of Try.func139 (by kernel_rfl) rfl) hIT (fun _ => rfl)
      (fun k W => But bv w.heap.size w W ∧ VisAt W bv bt s V ∧ w.heap.size + 1 + 1 + 1 < W.heap.size ∧ W.cell? ⟨w.heap.size, 0, none⟩ = some (.int .i64 (minL (ms.take k))) ∧ W.frozen? ⟨w.heap.size, 0, none⟩ = false ∧
        W.cell? ⟨w.heap.size + 1, 0, none⟩ = some (.pointer (some ⟨bv, 0, none⟩)) ∧ W.cell? ⟨w.heap.size + 1 + 1, 0, none⟩ = some (.int .i64 (x : Int)) ∧ W.cell? ⟨w.heap.size + 1 + 1 + 1, 0, none⟩ = some (.int .i64 ((d : Int) + 1)))
      (fun _ _ => False) ?G ?own ?I ?It (fun _ _ _ h _ => h) ?start ?round ?done (fun _ _ _ h => h.elim)
    case G =>
      rintro k W _ ⟨h1, h2, h3, h4, h5, h6, h7, h8⟩
      exact ⟨HT.out.below (h1.under (by omega)), h2, h6, h7, h8⟩
    case own =>
      rintro W W' j o ⟨h1, _⟩ hj ho _
      have hjW := (Array.getElem?_eq_some_iff.1 ho).1
      rw [h1.block j hjW (by omega)]
      exact ho
    case I =>
      rintro k W W' ⟨h1, h2, h3, h4, h5, h6, h7, h8⟩ ⟨o1, o2⟩
      have hz := o1.size
      exact ⟨h1.trans (o1.mono (by omega)), o2, by omega, (o1.cell (p := ⟨_, _, none⟩) (by simp only; omega) (by simp only; omega)).trans h4, (o1.frozen (p := ⟨_, _, none⟩) (by simp only; omega) (by simp only; omega)).trans h5,
        (o1.cell (p := ⟨_, _, none⟩) (by simp only; omega) (by simp only; omega)).trans h6, (o1.cell (p := ⟨_, _, none⟩) (by simp only; omega) (by simp only; omega)).trans h7, (o1.cell (p := ⟨_, _, none⟩) (by simp only; omega) (by simp only; omega)).trans h8⟩
    case It =>
      rintro k W W' ⟨h1, h2, h3, h4, h5, h6, h7, h8⟩ ht
      have hb : But bv w.heap.size W W' := ⟨ht.os, ht.tape, ht.output, Nat.le_of_eq ht.size.symm, fun j hj _ => ht.block j (by omega)⟩
      have hc : ∀ b o, b ≠ wA.heap.size + 1 → W'.cell? ⟨b, o, none⟩ = W.cell? ⟨b, o, none⟩ := fun b o hne => World.cell?_of_block (w := W) (a := ⟨b, o, none⟩) (ht.block b hne)
      exact ⟨h1.trans hb, h2.same (Nat.le_of_eq ht.size.symm) (ht.block bv (by omega)), by rw [ht.size]; exact h3, (hc _ _ (by omega)).trans h4, (World.frozen?_of_block (w := W) (a := ⟨w.heap.size, 0, none⟩) (ht.block _ (by simp only; omega))).trans h5, (hc _ _ (by omega)).trans h6, (hc _ _ (by omega)).trans h7, (hc _ _ (by omega)).trans h8⟩
    case start =>
      intro W hb hz
      have hc : ∀ b o, b < wA.heap.size → W.cell? ⟨b, o, none⟩ = wA.cell? ⟨b, o, none⟩ := fun b o h => hb.cell (p := ⟨b, o, none⟩) h
      exact ⟨.of (ab.trans (hb.mono (by omega))), (HI.out.below ab hbz).below hb (by omega), by omega, (hc _ _ (by omega)).trans a0, (hb.frozen (p := ⟨_, _, none⟩) (by simp only; omega)).trans af, (hc _ _ (by omega)).trans a1, (hc _ _ (by omega)).trans a2, (hc _ _ (by omega)).trans a3⟩
    case round =>
      rintro fn k W rec hk ⟨h1, h2, h3, h4, h5, h6, h7, h8⟩ hz hl hD hrec
      have hmt := minL_take ms k (M k) (hMk k hk)
      obtain ⟨P, hP⟩ : ∃ P, W.putObj (wA.heap.size + 1) (.loop (rec .busy none)) = P := ⟨_, rfl⟩
      have ht : Turn (wA.heap.size + 1) W P := by rw [← hP]; exact Turn.put _ _ _
      have pl : P.heap[wA.heap.size + 1]? = some (.loop (rec .busy none)) := by rw [← hP]; exact World.putObj_heap_same hz
      have pD : P.heap[wA.heap.size]? = some (.deferred (some [])) := (ht.block _ (by omega)).trans hD
      have p4 : P.cell? ⟨w.heap.size, 0, none⟩ = some (.int .i64 (minL (ms.take k))) := (World.cell?_of_block (w := W) (a := ⟨w.heap.size, 0, none⟩) (ht.block _ (by simp only; omega))).trans h4
      have p5 : P.frozen? ⟨w.heap.size, 0, none⟩ = false := (World.frozen?_of_block (w := W) (a := ⟨w.heap.size, 0, none⟩) (ht.block _ (by simp only; omega))).trans h5
      obtain ⟨m0, hm0⟩ : ∃ m0, minL (ms.take k) = m0 := ⟨_, rfl⟩
      obtain ⟨m1, hm1⟩ : ∃ m1, M k = m1 := ⟨_, rfl⟩
      rw [hm0] at p4
      rw [hm0, hm1] at hmt
      rw [hm1, hP]
      have HP : Hid (∀ P' : World, But bv w.heap.size P P' → P'.heap[wA.heap.size + 1]? = P.heap[wA.heap.size + 1]? → P'.heap[wA.heap.size]? = P.heap[wA.heap.size]? → w.heap.size + 1 + 1 + 1 < P'.heap.size → P'.heap[bv]? = P.heap[bv]? →
          (∀ j, w.heap.size < j → j < P.heap.size → P'.heap[j]? = P.heap[j]?) → P'.cell? ⟨w.heap.size, 0, none⟩ = some (.int .i64 (min m0 m1)) → P'.frozen? ⟨w.heap.size, 0, none⟩ = false →
          roundP (wA.heap.size + 1) wA.heap.size (rec .busy none) (fun W => But bv w.heap.size w W ∧ VisAt W bv bt s V ∧ w.heap.size + 1 + 1 + 1 < W.heap.size ∧ W.cell? ⟨w.heap.size, 0, none⟩ = some (.int .i64 (minL (ms.take (k + 1)))) ∧ W.frozen? ⟨w.heap.size, 0, none⟩ = false ∧
        W.cell? ⟨w.heap.size + 1, 0, none⟩ = some (.pointer (some ⟨bv, 0, none⟩)) ∧ W.cell? ⟨w.heap.size + 1 + 1, 0, none⟩ = some (.int .i64 (x : Int)) ∧ W.cell? ⟨w.heap.size + 1 + 1 + 1, 0, none⟩ = some (.int .i64 ((d : Int) + 1))) (fun _ => False) .normal { tmps := #[], defers := [] } P') := by
        intro P' q1 q2 q3 q4 q5 q6 q7 q8
        have hc : ∀ b o, w.heap.size < b → b < W.heap.size → b ≠ wA.heap.size + 1 → P'.cell? ⟨b, o, none⟩ = W.cell? ⟨b, o, none⟩ := fun b o hb hb2 hne =>
          (World.cell?_of_block (w := P) (a := ⟨b, o, none⟩) (q6 b hb (by rw [ht.size]; exact hb2))).trans (World.cell?_of_block (w := W) (a := ⟨b, o, none⟩) (ht.block b hne))
        have hbt : But bv w.heap.size W P := ⟨ht.os, ht.tape, ht.output, Nat.le_of_eq ht.size.symm, fun j hj _ => ht.block j (by omega)⟩
        exact ⟨q2.trans pl, q3.trans pD, (h1.trans hbt).trans q1, (h2.same (Nat.le_of_eq ht.size.symm) (ht.block bv (by omega))).same q1.size q5, q4, by rw [hmt]; exact q7, q8, (hc _ _ (by omega) (by omega) (by omega)).trans h6, (hc _ _ (by omega) (by omega) (by omega)).trans h7, (hc _ _ (by omega) (by omega) (by omega)).trans h8⟩
      have hPz : w.heap.size + 1 + 1 + 1 < P.heap.size := by rw [ht.size]; exact h3
      have hPz' : wA.heap.size + 1 < P.heap.size := by rw [ht.size]; exact hz
      clear hmt hm0 hm1 h1 h2 h3 h4 h5 h6 h7 h8 hP hl hD ht pl pD a0 af a1 a2 a3
      have HZ := Lib.hid z
      clear hrec z
      gi_wp2
      refine ⟨trivial, ?_⟩
      gi_wp2
      have z := HZ.out
      exact HP.out (P.setCell ⟨w.heap.size, 0, none⟩ (.int .i64 (min m0 m1))) ((But.refl bv w.heap.size P).setCell (p := ⟨w.heap.size, 0, none⟩) (Or.inr (Nat.le_refl _)) _) (Below.heap_setCell _ _ _ _ (by simp only; omega)) (Below.heap_setCell _ _ _ _ (by simp only; omega)) (by simpa using hPz) (Below.heap_setCell _ _ _ _ (by simp only; omega))
        (fun j hj _ => Below.heap_setCell _ _ _ _ (by simp only; omega)) (World.cell?_setCell_same' _ _ _ (by rw [p4]; rfl)) (by rw [World.frozen?_setCell]; exact p5)
    case done =>
      rintro W ⟨h1, h2, h3, h4, h5, h6, h7, h8⟩ hz hD
      rw [List.take_of_length_le (by rw [hml]; exact Nat.le_refl _)] at h4
      have hL := HSU.out
      rw [hms] at hL
      rw [← hL] at h4
      obtain ⟨L, hLL⟩ : ∃ L, V (d + 1) x = L := ⟨_, rfl⟩
      rw [hLL] at h4
      have hLb := HBD.out (d + 1) x
      rw [hLL] at hLb
      unfold never at hLb
      have fb := h2.free (2 + (d + 1) * 61 + x)
      obtain ⟨k', hk', _⟩ := h2.known (d + 1) x (by omega) (by omega)
      have HLL := Lib.hid hLL
      have HH2 := Lib.hid h2
      have HH1 := Lib.hid h1
      clear h1 h2 h6 h7 h8 hms hIT hMk hL hLL a0 af a1 a2 a3 hk
      go_wp2
      obtain ⟨W5, hW5⟩ : ∃ W5, (W.setCell ⟨bv, 2 + (d + 1) * 61 + x, none⟩ (.int .i64 (L + 1))).setCell ⟨w.heap.size, 0, none⟩ (.int .i64 L) = W5 := ⟨_, rfl⟩
      have k0 : W5.cell? ⟨w.heap.size, 0, none⟩ = some (.int .i64 L) := by
        rw [← hW5]; exact World.cell?_setCell_same' _ _ _ (by rw [World.cell?_setCell_far _ _ _ _ (by simp only; omega), h4]; rfl)
      have kz : W5.heap.size = W.heap.size := by rw [← hW5]; simp
      have kD : W5.heap[wA.heap.size]? = some (.deferred (some [])) := by
        rw [← hW5, Below.heap_setCell _ _ _ _ (by simp only; omega), Below.heap_setCell _ _ _ _ (by simp only; omega)]; exact hD
      have kb : But bv w.heap.size w W5 := by
        rw [← hW5]; exact (HH1.out.setCell (p := ⟨bv, _, none⟩) (Or.inl rfl) _).setCell (p := ⟨w.heap.size, 0, none⟩) (Or.inr (Nat.le_refl _)) _
      have kv : VisAt W5 bv bt s V := by
        have hv := HH2.out
        have hc : ∀ o, o ≠ 2 + (d + 1) * 61 + x → W5.cell? ⟨bv, o, none⟩ = W.cell? ⟨bv, o, none⟩ := fun o ho => by
          rw [← hW5, World.cell?_setCell_far _ _ _ _ (by simp only; omega)]
          exact World.cell?_setCell_other _ _ _ _ (fun e => ho (by simp at e))
        refine ⟨by rw [kz]; exact hv.lt, fun o => by rw [← hW5, World.frozen?_setCell, World.frozen?_setCell]; exact hv.free o, (hc 0 (by omega)).trans hv.c0, (hc 1 (by omega)).trans hv.c1, fun d' x' hd' hx' => ?_⟩
        by_cases he : 2 + d' * 61 + x' = 2 + (d + 1) * 61 + x
        · obtain rfl : d' = d + 1 := by omega
          obtain rfl : x' = x := by omega
          refine ⟨L + 1, ?_, Or.inr (by rw [HLL.out])⟩
          rw [← hW5, World.cell?_setCell_far _ _ _ _ (by simp only; omega)]
          exact World.cell?_setCell_same' _ _ _ (by rw [hk']; rfl)
        · obtain ⟨q, hq1, hq2⟩ := hv.known d' x' hd' hx'
          exact ⟨q, (hc _ he).trans hq1, hq2⟩
      rw [hW5]
      have ht : Turn wA.heap.size W5 (W5.putObj wA.heap.size (.deferred none)) := Turn.put _ _ _
      have k6 : (W5.putObj wA.heap.size (.deferred none)).cell? ⟨w.heap.size, 0, none⟩ = some (.int .i64 L) := (World.cell?_of_block (w := W5) (a := ⟨w.heap.size, 0, none⟩) (ht.block _ (by simp only; omega))).trans k0
      refine Or.inr ⟨wA.heap.size, rfl, kD, .int .i64 L, by simp [results, Try.results102, go_sem, k6], ?_, ?_, ?_⟩
      · rw [HLL.out]
      · exact kb.trans ⟨ht.os, ht.tape, ht.output, Nat.le_of_eq ht.size.symm, fun j hj _ => ht.block j (by omega)⟩
      · exact kv.same (Nat.le_of_eq ht.size.symm) (ht.block bv (by omega))

end Go.Proofs.Ytnaehbgmfajdjaa
