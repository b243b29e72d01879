/- at of package aim: the means of all aims at a valid position. -/
import Derived.Test.YtnaehbgmfajdjaaPos
namespace Go.Proofs.Ytnaehbgmfajdjaa
open Go.RowKit AimP

set_option maxRecDepth 100000 in
set_option maxHeartbeats 1000000 in
theorem means_any (bv : Nat) (left d : Int) (w : World) :
    Calls Try.prog 97 #[.pointer (some ⟨bv, 0, none⟩), .int .i64 left, .int .i64 d] w
      fun e w' => e = .returned (.func (.func 139) #[] #[.pointer (some ⟨w.heap.size, 0, none⟩), .pointer (some ⟨w.heap.size + 1, 0, none⟩), .pointer (some ⟨w.heap.size + 1 + 1, 0, none⟩)]) ∧
        Below w.heap.size w w' ∧ w'.heap.size = w.heap.size + 3 ∧ w'.cell? ⟨w.heap.size, 0, none⟩ = some (.pointer (some ⟨bv, 0, none⟩)) ∧ w'.cell? ⟨w.heap.size + 1, 0, none⟩ = some (.int .i64 left) ∧ w'.cell? ⟨w.heap.size + 1 + 1, 0, none⟩ = some (.int .i64 d) := by
  go_enter Try.func97, Try.ntmps97
  go_wp2
  go_ret
  refine ⟨rfl, (((Below.refl _ _).alloc (Nat.le_refl _) _).alloc (by simp) _).alloc (by simp <;> omega) _, by simp, ?_, ?_, ?_⟩
  · rw [cell_old _ _ _ (by simp <;> omega), cell_old _ _ _ (by simp), cell_new _ _ _ _ _ _ rfl]; rfl
  · rw [cell_old _ _ _ (by simp), cell_new _ _ _ _ _ _ (by simp)]; rfl
  · rw [cell_new _ _ _ _ _ _ (by simp)]; rfl

theorem TabAt.keep {n m : Nat} {W W' : World} {bt : Nat} {r : Rules} {best : Bool} {ba oa ca bn cn : Nat} {num : List Int} (h : TabAt n W bt r best ba oa ca bn cn num) (hA : AimsAt m W' ba oa r.aims) (hm : m ≤ bn)
    (e1 : W'.heap[bt]? = W.heap[bt]?) (e2 : W'.heap[bn]? = W.heap[bn]?) : TabAt n W' bt r best ba oa ca bn cn num :=
  have k : ∀ o, W'.cell? ⟨bt, o, none⟩ = W.cell? ⟨bt, o, none⟩ := fun o => World.cell?_of_block (w := W) (a := ⟨bt, o, none⟩) e1
  ⟨h.lt, h.ne, (k _).trans h.c0, (k _).trans h.c1, (k _).trans h.c2, (k _).trans h.c3, (k _).trans h.c4, (k _).trans h.c5, hA.mono hm, h.nlt,
    fun i hi => (World.cell?_of_block (w := W) (a := ⟨bn, i, none⟩) e2).trans (h.nums i hi), fun o => (World.frozen?_of_block (w := W) (a := ⟨bn, o, none⟩) e2).trans (h.free o)⟩

/-- The means of all aims at a position. -/
def meansAt (r : Rules) (best : Bool) (s left d : Nat) : List Int := meansV r best (table r best) s (fun x => val r best (table r best) s (d - 1) x) left

attribute [local go_sem] Oper.semAt_some

set_option maxRecDepth 100000 in
set_option maxHeartbeats 1000000 in
theorem at_any (r : Rules) (best : Bool) (ba oa ca s left d : Nat) (w : World) (hr : RulesOk r) (hA : AimsAt w.heap.size w ba oa r.aims) (hp : PosOk r s left d) :
    Calls Try.prog 53 #[rulesV r ba oa ca, posV s left d, .bool best] w
      fun e w' => ∃ g cap, e = .returned (.slice (some ⟨g, 0, none⟩) r.aims.length cap) ∧ Below w.heap.size w w' ∧ w.heap.size < g ∧ g < w'.heap.size ∧ ∀ i, i < r.aims.length → w'.cell? ⟨g, i, none⟩ = some (.int .i64 (((meansAt r best s left d)[i]?).getD 0)) := by
  obtain ⟨inf, hin, hz0, hz1, hz2⟩ := info_parts infoInt
  have h1 := fun W (hW : Below w.heap.size w W) => filled_any r best ba oa ca W hr ((hA.below hW).mono hW.size)
  have hst := hr.start
  obtain ⟨p1, p2, p3, p4, p5, p6, p7⟩ := hp
  obtain ⟨d', rfl⟩ : ∃ d', d = d' + 1 := ⟨d - 1, by omega⟩
  have hlt := table_length r best
  have hbd := fun (d : Nat) (x : Int) => val_bd hr (table_ok r best) best s d x
  have hdd : ((d' + 1 : Nat) : Int) = (d' : Int) + 1 := by omega
  have hit := fun (bv bt bn Bx : Nat) => means_iter bv bt s r best ba oa ca bn (r.start + 1) (table r best) (fun d x => val r best (table r best) s d x) d' left Bx (by omega) p4 (by omega) hr p2
    (value_all bv bt s r best ba oa ca bn (r.start + 1) (table r best) (by omega) hr p2 (table_ok r best) d' (by omega)) (fun b => nextV_bd (table_ok r best) (fun y => hbd d' y) _ _ _ _)
  have hml : (meansAt r best s left (d' + 1)).length = r.aims.length := by simp [meansAt, meansV]
  have hMk : ∀ k, k < r.aims.length → (meansAt r best s left (d' + 1))[k]? = some (meanAt r best (table r best) s (fun x => val r best (table r best) s d' x) left k) := by
    intro k hk
    unfold meanAt
    have : (meansAt r best s left (d' + 1)) = meansV r best (table r best) s (fun x => val r best (table r best) s d' x) left := rfl
    rw [this] at hml ⊢
    rw [List.getElem?_eq_getElem (by rw [hml]; exact hk)]
    rfl
  obtain ⟨ms, hms⟩ : ∃ ms, meansAt r best s left (d' + 1) = ms := ⟨_, rfl⟩
  rw [hms] at hml hMk ⊢
  obtain ⟨M, hM⟩ : ∃ M : Nat → Int, meanAt r best (table r best) s (fun x => val r best (table r best) s d' x) left = M := ⟨_, rfl⟩
  rw [hM] at hMk hit
  have HIT := Lib.hid hit
  have HMK := Lib.hid hMk
  clear hms hM hit hMk hbd hlt
  unfold rulesV posV at *
  rw [hdd]
  obtain ⟨den, hden⟩ : ∃ den, r.den = den := ⟨_, rfl⟩
  obtain ⟨out, hout⟩ : ∃ out, r.out = out := ⟨_, rfl⟩
  rw [hden, hout] at h1 ⊢
  have H1 := Lib.hid h1
  have HP1 := Lib.hid p1
  have HP3 := Lib.hid p3
  have HR := Lib.hid hr
  have HA := Lib.hid hA
  have HIN := Lib.hid hin
  have HZ0 := Lib.hid hz0
  have HZ1 := Lib.hid hz1
  have HZ2 := Lib.hid hz2
  have hlr := hr.len
  have hlr1 := hr.len1
  clear h1 hr hA p1 p3 hden hout hin hz0 hz1 hz2
  refine calls_marks Try.func53 rfl ?_
  simp only [Try.ntmps53, List.size_toArray, List.length_cons, List.length_nil, Nat.reduceAdd, Nat.reduceSub, Array.replicate_succ, Array.replicate_zero, List.push_toArray, List.append_toArray, List.nil_append, List.cons_append]
  go_wp2_with fail
  obtain ⟨wa, hwa⟩ : ∃ wa, ((w.alloc (Obj.cells #[Value.int IntKind.i64 den, Value.slice (some ⟨ba, oa, none⟩) r.aims.length ca, Value.int .i64 (r.start : Int), Value.int .i64 out] 31)).alloc (Obj.cells #[.int .i64 (s : Int), .int .i64 (left : Int), .int .i64 ((d' : Int) + 1)] 45)).alloc (Obj.cells #[.slice none 0 0] 33) = wa := ⟨_, rfl⟩
  have hB : Below w.heap.size w wa := by rw [← hwa]; exact (((Below.refl _ _).alloc (Nat.le_refl _) _).alloc (by simp) _).alloc (by simp <;> omega) _
  have za : wa.heap.size = w.heap.size + 1 + 1 + 1 := by rw [← hwa]; simp
  have a0 : wa.cell? ⟨w.heap.size, 0, none⟩ = some (.int .i64 den) := by rw [← hwa, cell_old _ _ _ (by simp <;> omega), cell_old _ _ _ (by simp), cell_new _ _ _ _ _ _ rfl]; rfl
  have a1 : wa.cell? ⟨w.heap.size, 1, none⟩ = some (.slice (some ⟨ba, oa, none⟩) r.aims.length ca) := by rw [← hwa, cell_old _ _ _ (by simp <;> omega), cell_old _ _ _ (by simp), cell_new _ _ _ _ _ _ rfl]; rfl
  have a2 : wa.cell? ⟨w.heap.size, 2, none⟩ = some (.int .i64 (r.start : Int)) := by rw [← hwa, cell_old _ _ _ (by simp <;> omega), cell_old _ _ _ (by simp), cell_new _ _ _ _ _ _ rfl]; rfl
  have a3 : wa.cell? ⟨w.heap.size, 3, none⟩ = some (.int .i64 out) := by rw [← hwa, cell_old _ _ _ (by simp <;> omega), cell_old _ _ _ (by simp), cell_new _ _ _ _ _ _ rfl]; rfl
  have q0 : wa.cell? ⟨w.heap.size + 1, 0, none⟩ = some (.int .i64 (s : Int)) := by rw [← hwa, cell_old _ _ _ (by simp), cell_new _ _ _ _ _ _ (by simp)]; rfl
  have q1 : wa.cell? ⟨w.heap.size + 1, 1, none⟩ = some (.int .i64 (left : Int)) := by rw [← hwa, cell_old _ _ _ (by simp), cell_new _ _ _ _ _ _ (by simp)]; rfl
  have q2 : wa.cell? ⟨w.heap.size + 1, 2, none⟩ = some (.int .i64 ((d' : Int) + 1)) := by rw [← hwa, cell_old _ _ _ (by simp), cell_new _ _ _ _ _ _ (by simp)]; rfl
  have l0 : wa.cell? ⟨w.heap.size + 1 + 1, 0, none⟩ = some (.slice none 0 0) := by rw [← hwa, cell_new _ _ _ _ _ _ (by simp)]; rfl
  have lf : wa.frozen? ⟨w.heap.size + 1 + 1, 0, none⟩ = false := by rw [← hwa, frozen_new _ _ _ _ _ (by simp)]
  have HB := Lib.hid hB
  have HBD : Hid (Below w.heap.size w wa.drew) := hB.trans ⟨rfl, rfl, rfl, Nat.le_refl _, fun _ _ => rfl⟩
  have HZD : Hid (wa.drew.heap.size = w.heap.size + 1 + 1 + 1) := za
  have hfrom := fun bt W => from_any bt s (fun d x => val r best (table r best) s d x) W
  have HFR := Lib.hid hfrom
  rw [hwa]
  clear hwa hB hfrom
  go_region_held3 (fun w' => w'.cell? ⟨w.heap.size, 0, none⟩ = some (.int .i64 den) ∧ w'.cell? ⟨w.heap.size, 1, none⟩ = some (.slice (some ⟨ba, oa, none⟩) r.aims.length ca) ∧ w'.cell? ⟨w.heap.size, 2, none⟩ = some (.int .i64 (r.start : Int)) ∧ w'.cell? ⟨w.heap.size, 3, none⟩ = some (.int .i64 out) ∧ w'.cell? ⟨w.heap.size + 1, 0, none⟩ = some (.int .i64 (s : Int)) ∧ w'.cell? ⟨w.heap.size + 1, 1, none⟩ = some (.int .i64 (left : Int)) ∧ w'.cell? ⟨w.heap.size + 1, 2, none⟩ = some (.int .i64 ((d' : Int) + 1))) (go_keep)
    (first
      | (go_at_call 51
         refine (H1.out _ ?_).mono ?_
         · exact HBD.out
         rintro e wF ⟨n1, bt1, bn1, rfl, hT1, hF, hn1, hn1', hbn1, hbt1⟩
         have zF : w.heap.size + 1 + 1 + 1 ≤ wF.heap.size := by
           have h := hF.size
           rw [HZD.out] at h
           exact h
         have hc := (bcell hF).1
         have c0 := (hc w.heap.size 0 (by rw [HZD.out]; omega)).trans a0
         have c1 := (hc w.heap.size 1 (by rw [HZD.out]; omega)).trans a1
         have c2 := (hc w.heap.size 2 (by rw [HZD.out]; omega)).trans a2
         have c3 := (hc w.heap.size 3 (by rw [HZD.out]; omega)).trans a3
         have c4 := (hc (w.heap.size + 1) 0 (by rw [HZD.out]; omega)).trans q0
         have c5 := (hc (w.heap.size + 1) 1 (by rw [HZD.out]; omega)).trans q1
         have c6 := (hc (w.heap.size + 1) 2 (by rw [HZD.out]; omega)).trans q2
         have c7 := (hc (w.heap.size + 1 + 1) 0 (by rw [HZD.out]; omega)).trans l0
         have c8 := ((bcell hF).2 (w.heap.size + 1 + 1) 0 (by rw [HZD.out]; omega)).trans lf
         have HT1 := Lib.hid hT1
         have HF := Lib.hid (HBD.out.trans (hF.mono (by rw [HZD.out]; omega)))
         clear hT1 hF hc)
      | (go_at_call 96
         refine (HFR.out _ _).mono ?_
         rintro e wV ⟨bv, rfl, hbv, hbV, hvis⟩
         have hc := (bcell hbV).1
         have e0 := (hc w.heap.size 0 (by omega)).trans c0
         have e1 := (hc w.heap.size 1 (by omega)).trans c1
         have e2 := (hc w.heap.size 2 (by omega)).trans c2
         have e3 := (hc w.heap.size 3 (by omega)).trans c3
         have e4 := (hc (w.heap.size + 1) 0 (by omega)).trans c4
         have e5 := (hc (w.heap.size + 1) 1 (by omega)).trans c5
         have e6 := (hc (w.heap.size + 1) 2 (by omega)).trans c6
         have e7 := (hc (w.heap.size + 1 + 1) 0 (by omega)).trans c7
         have e8 := ((bcell hbV).2 (w.heap.size + 1 + 1) 0 (by omega)).trans c8
         have HT2 := Lib.hid ((HT1.out.below (hbV.mono hn1')).mono (m := bv) (by rw [hbv]; exact hn1'))
         have HV2 := Lib.hid hvis
         have HBV := Lib.hid hbv
         have HF2 := Lib.hid (HF.out.trans (hbV.mono (by omega)))
         have zV := hvis.lt
         have zV2 : w.heap.size + 1 + 1 + 1 ≤ bv := by omega
         clear hbv hbV hvis hc)
      | (go_at_call 97
         refine (means_any _ _ _ _).mono ?_
         rintro e wM ⟨rfl, hbM, hzM, m0, m1, m2⟩
         have hc := (bcell hbM).1
         have g0 := (hc w.heap.size 0 (by omega)).trans e0
         have g1 := (hc w.heap.size 1 (by omega)).trans e1
         have g2 := (hc w.heap.size 2 (by omega)).trans e2
         have g3 := (hc w.heap.size 3 (by omega)).trans e3
         have g4 := (hc (w.heap.size + 1) 0 (by omega)).trans e4
         have g5 := (hc (w.heap.size + 1) 1 (by omega)).trans e5
         have g6 := (hc (w.heap.size + 1) 2 (by omega)).trans e6
         have g7 := (hc (w.heap.size + 1 + 1) 0 (by omega)).trans e7
         have g8 := ((bcell hbM).2 (w.heap.size + 1 + 1) 0 (by omega)).trans e8
         have HT3 := Lib.hid (HT2.out.below (hbM.mono (Nat.le_of_lt zV)))
         have HV3 := Lib.hid (HV2.out.below hbM zV)
         have HF3 := Lib.hid (HF2.out.trans (hbM.mono (by omega)))
         clear hbM hc))
  go_wp2
  have hit := HIT.out bv bt1 bn1 wV.heap.size
  refine wp_range (gf := 139) (fst := #[]) (cap := #[.pointer (some ⟨wV.heap.size, 0, none⟩), .pointer (some ⟨wV.heap.size + 1, 0, none⟩), .pointer (some ⟨wV.heap.size + 1 + 1, 0, none⟩)]) rfl (enters_of Try.func139 (by kernel_rfl) rfl) hit (fun _ => rfl)
    (fun k W => Below w.heap.size w W ∧ TabAt bv W bt1 r best ba oa ca bn1 (r.start + 1) (table r best) ∧ VisAt W bv bt1 s (fun d x => val r best (table r best) s d x) ∧ wM.heap.size + 2 ≤ W.heap.size ∧ W.cell? ⟨wV.heap.size, 0, none⟩ = some (.pointer (some ⟨bv, 0, none⟩)) ∧ W.cell? ⟨wV.heap.size + 1, 0, none⟩ = some (.int .i64 (left : Int)) ∧ W.cell? ⟨wV.heap.size + 1 + 1, 0, none⟩ = some (.int .i64 ((d' : Int) + 1)) ∧
      ∃ v, W.cell? ⟨w.heap.size + 1 + 1, 0, none⟩ = some v ∧ W.frozen? ⟨w.heap.size + 1 + 1, 0, none⟩ = false ∧ W.ownsRow (wM.heap.size + 2) 3 1 v k ((ms.take k).map (Value.int .i64)))
    (fun _ _ => False) ?G ?own ?I ?It (fun _ _ _ h _ => h) ?start ?round ?done (fun _ _ _ h => h.elim)
  case G =>
    rintro k W _ ⟨h1, h2, h3, h4, h5, h6, h7, h8⟩
    exact ⟨h2, h3, h5, h6, h7⟩
  case own =>
    rintro W W' j o ⟨h1, _⟩ hj ho _
    have hjW := (Array.getElem?_eq_some_iff.1 ho).1
    rw [h1.block j hjW (by omega)]
    exact ho
  case I =>
    rintro k W W' ⟨h1, h2, h3, h4, h5, h6, h7, v, h8, h9, h10⟩ ⟨o1, o2⟩
    have hz := o1.size
    have hc : ∀ b o, b < W.heap.size → b ≠ bv → W'.cell? ⟨b, o, none⟩ = W.cell? ⟨b, o, none⟩ := fun b o hb hne => o1.cell (p := ⟨b, o, none⟩) hb hne
    refine ⟨h1.trans ((o1.mono (N' := w.heap.size) (by omega)).below (by omega)), h2.below (o1.under (by omega)), o2, by omega, (hc _ _ (by omega) (by omega)).trans h5, (hc _ _ (by omega) (by omega)).trans h6, (hc _ _ (by omega) (by omega)).trans h7,
      v, (hc _ _ (by omega) (by omega)).trans h8, (o1.frozen (p := ⟨_, _, none⟩) (by simp only; omega) (by simp only; omega)).trans h9, ?_⟩
    refine h10.kept (row := some bv) ⟨o1.os, o1.tape, o1.output, o1.size, fun j hj hne => o1.block j hj (fun e => hne (by rw [e]))⟩ ?_
    right
    intro e
    have := (h10.lt bv e).1
    omega
  case It =>
    rintro k W W' ⟨h1, h2, h3, h4, h5, h6, h7, v, h8, h9, h10⟩ ht
    have hb : Below (wM.heap.size + 1) W W' := ⟨ht.os, ht.tape, ht.output, Nat.le_of_eq ht.size.symm, fun j hj => ht.block j (by omega)⟩
    have hc : ∀ b o, b < wM.heap.size + 1 → W'.cell? ⟨b, o, none⟩ = W.cell? ⟨b, o, none⟩ := fun b o h => hb.cell (p := ⟨b, o, none⟩) h
    refine ⟨h1.trans (hb.mono (by omega)), h2.below (hb.mono (by omega)), h3.below hb (by omega), by rw [ht.size]; exact h4, (hc _ _ (by omega)).trans h5, (hc _ _ (by omega)).trans h6, (hc _ _ (by omega)).trans h7,
      v, (hc _ _ (by omega)).trans h8, (hb.frozen (p := ⟨_, _, none⟩) (by simp only; omega)).trans h9, ?_⟩
    refine h10.kept (row := some (wM.heap.size + 1)) ⟨ht.os, ht.tape, ht.output, Nat.le_of_eq ht.size.symm, fun j _ hne => ht.block j (fun e => hne (by rw [e]))⟩ ?_
    right
    intro e
    have := (h10.lt _ e).1
    omega
  case start =>
    intro W hb hz
    have hc : ∀ b o, b < wM.heap.size → W.cell? ⟨b, o, none⟩ = wM.cell? ⟨b, o, none⟩ := fun b o h => hb.cell (p := ⟨b, o, none⟩) h
    exact ⟨HF3.out.trans (hb.mono (by omega)), HT3.out.below (hb.mono (by omega)), HV3.out.below hb (by omega), by omega, (hc _ _ (by omega)).trans m0, (hc _ _ (by omega)).trans m1, (hc _ _ (by omega)).trans m2,
      .slice none 0 0, (hc _ _ (by omega)).trans g7, (hb.frozen (p := ⟨_, _, none⟩) (by simp only; omega)).trans g8, World.ownsRow_nil _ _ _ _⟩
  case round =>
    rintro fn k W rec hk ⟨h1, h2, h3, h4, h5, h6, h7, v, h8, h9, h10⟩ hz hl hD hrec
    obtain ⟨P, hP⟩ : ∃ P, W.putObj (wM.heap.size + 1) (.loop (rec .busy none)) = P := ⟨_, rfl⟩
    have ht : Turn (wM.heap.size + 1) W P := by rw [← hP]; exact Turn.put _ _ _
    have pl : P.heap[wM.heap.size + 1]? = some (.loop (rec .busy none)) := by rw [← hP]; exact World.putObj_heap_same hz
    have pD : P.heap[wM.heap.size]? = some (.deferred (some [])) := (ht.block _ (by omega)).trans hD
    have hb : Below (wM.heap.size + 1) W P := ⟨ht.os, ht.tape, ht.output, Nat.le_of_eq ht.size.symm, fun j hj => ht.block j (by omega)⟩
    have hc : ∀ b o, b < wM.heap.size + 1 → P.cell? ⟨b, o, none⟩ = W.cell? ⟨b, o, none⟩ := fun b o h => hb.cell (p := ⟨b, o, none⟩) h
    have x8 := (hc (w.heap.size + 1 + 1) 0 (by omega)).trans h8
    have x9 := (hb.frozen (p := ⟨w.heap.size + 1 + 1, 0, none⟩) (by simp only; omega)).trans h9
    have x10 : P.ownsRow (wM.heap.size + 2) 3 1 v k ((ms.take k).map (Value.int .i64)) := by
      refine h10.kept (row := some (wM.heap.size + 1)) ⟨ht.os, ht.tape, ht.output, Nat.le_of_eq ht.size.symm, fun j _ hne => ht.block j (fun e => hne (by rw [e]))⟩ ?_
      right
      intro e
      have := (h10.lt _ e).1
      omega
    have X1 := Lib.hid (h1.trans (hb.mono (by omega)))
    have X2 := Lib.hid (h2.below (hb.mono (by omega)))
    have X3 := Lib.hid (h3.below hb (by omega))
    have X5 := Lib.hid ((hc _ _ (by omega)).trans h5)
    have X6 := Lib.hid ((hc _ _ (by omega)).trans h6)
    have X7 := Lib.hid ((hc _ _ (by omega)).trans h7)
    have X10 := Lib.hid x10
    have HPL := Lib.hid pl
    have HPD := Lib.hid pD
    have hPz : wM.heap.size + 2 ≤ P.heap.size := by rw [ht.size]; exact h4
    obtain ⟨m1', hm1⟩ : ∃ m1', M k = m1' := ⟨_, rfl⟩
    have hmk := HMK.out k hk
    rw [hm1] at hmk ⊢
    have HMK1 := Lib.hid hmk
    rw [hP]
    clear hrec hP ht pl pD hb hc h1 h2 h3 h5 h6 h7 h8 h9 h10 x10 hmk hm1 hl hD g0 g1 g2 g3 g4 g5 g6 g7 g8 m0 m1 m2
    gi_wp2
    refine ⟨trivial, ?_⟩
    gi_wp2_with (gi_at_builtin; refine wpListIn_append_own _ rfl _ _ 33 rfl (wM.heap.size + 2) 3 inf (.int .i64 0) 1 8 Try.underlying33 HIN.out HZ0.out HZ1.out HZ2.out rfl (by decide) _ k _ rfl (X10.out.alloc _) ⟨P.heap.size, 0, none⟩ 1 1 [.int .i64 m1'] rfl rfl ?c1 ?c2 ?c3 ?c4 ?c5 ?_)
    case c1 => exact cell_one_new _ _ _
    case c2 => simp [Value.oneCell']
    case c3 => unfold maxLen; omega
    case c4 => omega
    case c5 => simp; omega
    intro v' w3 hown3 hgrow _
    obtain ⟨g, cap, rfl⟩ := ownsRow_succ hown3
    have hgz := hown3.lt g rfl
    have hz3 := hgrow.size
    rw [World.size_alloc] at hz3
    have hal := (Below.refl P.heap.size P).alloc (Nat.le_refl _) (Obj.cells #[Value.int IntKind.i64 m1'] 3)
    have hblk : ∀ j, j < wM.heap.size + 2 → w3.heap[j]? = P.heap[j]? := fun j hj =>
      (hgrow.block j (by simp; omega) (fun e => by have := (X10.out.lt j e.symm).1; omega)).trans (hal.block j (by omega))
    have hb3 : Below (wM.heap.size + 2) P w3 := ⟨hgrow.os, hgrow.tape, hgrow.output, by omega, hblk⟩
    have y8 := (hb3.cell (p := ⟨w.heap.size + 1 + 1, 0, none⟩) (by simp only; omega)).trans x8
    have y9 := (hb3.frozen (p := ⟨w.heap.size + 1 + 1, 0, none⟩) (by simp only; omega)).trans x9
    have HB3 := Lib.hid hb3
    have HO3 := Lib.hid hown3
    clear hgrow hal hblk hb3 hown3 x8 x9
    gi_wp2
    obtain ⟨w4, hw4⟩ : ∃ w4, w3.setCell ⟨w.heap.size + 1 + 1, 0, none⟩ (.slice (some ⟨g, 0, none⟩) (k + 1) cap) = w4 := ⟨_, rfl⟩
    rw [hw4]
    have hs4 : ∀ j, j ≠ w.heap.size + 1 + 1 → w4.heap[j]? = w3.heap[j]? := fun j hj => by rw [← hw4]; exact Below.heap_setCell _ _ _ _ hj
    have z4 : w4.heap.size = w3.heap.size := by rw [← hw4]; simp
    have hc4 : ∀ b o, b ≠ w.heap.size + 1 + 1 → w4.cell? ⟨b, o, none⟩ = w3.cell? ⟨b, o, none⟩ := fun b o h => World.cell?_of_block (w := w3) (a := ⟨b, o, none⟩) (hs4 b h)
    have hb34 : Below (w.heap.size + 1 + 1) w3 w4 := ⟨by rw [← hw4]; rfl, by rw [← hw4]; rfl, by rw [← hw4]; rfl, by omega, fun j hj => hs4 j (by omega)⟩
    have hc3 : ∀ b o, b < wM.heap.size + 2 → w3.cell? ⟨b, o, none⟩ = P.cell? ⟨b, o, none⟩ := fun b o h => HB3.out.cell (p := ⟨b, o, none⟩) h
    have hb13 := HB3.out
    have hbt3 := X2.out.lt
    have hbn3 := X2.out.nlt
    have hlt := hbt1
    have hln := hbn1
    rw [HZD.out] at hlt hln
    refine ⟨(hs4 _ (by omega)).trans ((hb13.block _ (by omega)).trans HPL.out), (hs4 _ (by omega)).trans ((hb13.block _ (by omega)).trans HPD.out), (X1.out.trans (hb13.mono (by omega))).trans (hb34.mono (by omega)), ?_, ?_, by omega, ?_, ?_, ?_, .slice (some ⟨g, 0, none⟩) (k + 1) cap, ?_, ?_, ?_⟩
    · exact (X2.out.below (hb13.mono (by omega))).keep (m := w.heap.size) (HA.out.below ((X1.out.trans (hb13.mono (by omega))).trans (hb34.mono (by omega)))) (by omega) (hs4 _ (by omega)) (hs4 _ (by omega))
    · exact (X3.out.below hb13 (by omega)).same (by omega) (hs4 _ (by omega))
    · exact (hc4 _ _ (by omega)).trans ((hc3 _ _ (by omega)).trans X5.out)
    · exact (hc4 _ _ (by omega)).trans ((hc3 _ _ (by omega)).trans X6.out)
    · exact (hc4 _ _ (by omega)).trans ((hc3 _ _ (by omega)).trans X7.out)
    · rw [← hw4]; exact World.cell?_setCell_same' _ _ _ (by rw [y8]; rfl)
    · rw [← hw4, World.frozen?_setCell]; exact y9
    · have h := ownsRow_setCell_other (a := ⟨w.heap.size + 1 + 1, 0, none⟩) HO3.out (by simp [Value.ownBlock]; omega) (Value.slice (some ⟨g, 0, none⟩) (k + 1) cap)
      rw [hw4] at h
      rw [← hzM] at h
      rw [List.take_add_one, HMK1.out, List.map_append, List.map_take]
      exact h
  case done =>
    rintro W ⟨h1, h2, h3, h4, h5, h6, h7, v, h8, h9, h10⟩ hz hD
    rw [List.take_of_length_le (by omega)] at h10
    obtain ⟨m0', hm0'⟩ : ∃ m, r.aims.length = m + 1 := ⟨r.aims.length - 1, by omega⟩
    obtain ⟨g, cap, rfl⟩ : ∃ g cap, v = .slice (some ⟨g, 0, none⟩) r.aims.length cap := by
      rw [hm0'] at h10 ⊢
      exact ownsRow_succ h10
    clear hm0'
    have H1' := Lib.hid h1
    have H10 := Lib.hid h10
    clear h1 h2 h3 h5 h6 h7 h10 g0 g1 g2 g3 g4 g5 g6 g7 g8 m0 m1 m2
    go_wp2
    have f1 : (W.setCell ⟨w.heap.size + 1 + 1, 0, none⟩ (.slice (some ⟨g, 0, none⟩) r.aims.length cap)).heap[wM.heap.size]? = some (.deferred (some [])) := (Below.heap_setCell _ _ _ _ (by simp only; omega)).trans hD
    obtain ⟨W5, hW5⟩ : ∃ W5, W.setCell ⟨w.heap.size + 1 + 1, 0, none⟩ (.slice (some ⟨g, 0, none⟩) r.aims.length cap) = W5 := ⟨_, rfl⟩
    have k8 : W5.cell? ⟨w.heap.size + 1 + 1, 0, none⟩ = some (.slice (some ⟨g, 0, none⟩) r.aims.length cap) := by rw [← hW5]; exact World.cell?_setCell_same' _ _ _ (by rw [h8]; rfl)
    have k1 : Below w.heap.size w W5 := by rw [← hW5]; exact H1'.out.setCell (p := ⟨w.heap.size + 1 + 1, 0, none⟩) (by simp only; omega) _
    have hgz := H10.out.lt g rfl
    have kc : ∀ o, W5.cell? ⟨g, o, none⟩ = W.cell? ⟨g, o, none⟩ := fun o => by rw [← hW5]; exact World.cell?_setCell_far _ _ _ _ (by simp only; omega)
    have kz : W5.heap.size = W.heap.size := by rw [← hW5]; simp
    rw [hW5] at f1 ⊢
    have ht : Turn wM.heap.size W5 (W5.putObj wM.heap.size (.deferred none)) := Turn.put _ _ _
    have k9 : (W5.putObj wM.heap.size (.deferred none)).cell? ⟨w.heap.size + 1 + 1, 0, none⟩ = some (.slice (some ⟨g, 0, none⟩) r.aims.length cap) := (World.cell?_of_block (w := W5) (a := ⟨w.heap.size + 1 + 1, 0, none⟩) (ht.block _ (by simp only; omega))).trans k8
    refine Or.inr ⟨wM.heap.size, rfl, f1, .slice (some ⟨g, 0, none⟩) r.aims.length cap, by simp [results, Try.results53, go_sem, k9], g, cap, rfl, ?_, by omega, by rw [ht.size]; omega, ?_⟩
    · exact k1.trans ⟨ht.os, ht.tape, ht.output, Nat.le_of_eq ht.size.symm, fun j hj => ht.block j (by omega)⟩
    · intro i hi
      refine ((World.cell?_of_block (w := W5) (a := ⟨g, i, none⟩) (ht.block _ (by simp only; omega))).trans (kc i)).trans ?_
      rw [H10.out.cellAt i (by simp; omega), List.getElem?_map]
      have : i < ms.length := by omega
      simp [this]

end Go.Proofs.Ytnaehbgmfajdjaa
