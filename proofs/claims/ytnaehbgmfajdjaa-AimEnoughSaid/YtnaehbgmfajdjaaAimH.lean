/- (table).fill of package aim: the number of a score. -/
import Derived.Test.YtnaehbgmfajdjaaAimG
import Derived.Test.YtnaehbgmfajdjaaSearch
import Derived.Laws.EntriesVeiled
namespace Go.Proofs.Ytnaehbgmfajdjaa
open Go.RowKit AimP

set_option maxRecDepth 100000 in
set_option maxHeartbeats 1000000 in
theorem tried_any (n bt s Bt Bs : Nat) (r : Rules) (best : Bool) (ba oa ca bn cn : Nat) (num : List Int) (v : Int) (w : World) (hsn : s < num.length) (hr : RulesOk r) (hs60 : s ≤ r.start) (hs0 : lowest r.out ≤ (s : Int)) (hnum : NumOk num)
    (hv : 0 ≤ v ∧ v ≤ never) (hn : n ≤ w.heap.size) (hBt : w.cell? ⟨Bt, 0, none⟩ = some (.pointer (some ⟨bt, 0, none⟩))) (hBs : w.cell? ⟨Bs, 0, none⟩ = some (.int .i64 (s : Int))) (h1 : Bt ≠ bn) (h2 : Bs ≠ bn)
    (hT : TabAt n w bt r best ba oa ca bn cn num) :
    Calls Try.prog 135 #[.int .i64 v, .pointer (some ⟨Bt, 0, none⟩), .pointer (some ⟨Bs, 0, none⟩)] w
      fun e w' => e = .returned (.bool (holds r best (num.set s v) s)) ∧ TabAt n w' bt r best ba oa ca bn cn (num.set s v) ∧ But bn w.heap.size w w' := by
  have hT1 := hT.set s v hsn
  have t5 := hT.c5
  have tn := hT.nums s hsn
  have tf := hT.free s
  have hsl : (s : Int) < (num.length : Int) := by omega
  obtain ⟨q, hq⟩ : ∃ q, holds r best (num.set s v) s = q := ⟨_, rfl⟩
  have hh := fun W h1 h2 => holds_any n bt s r best ba oa ca bn cn (num.set s v) q W (by rw [List.length_set]; exact hsn) hr hs60 hs0 (numOk_set hnum hv s) h1 h2 hq.symm
  rw [hq]
  have HH := Lib.hid hh
  have HT1 := Lib.hid hT1
  have hbn := hT.nlt
  have n1 : ¬ (bn = Bt) := fun e => h1 e.symm
  have n2 : ¬ (bn = Bs) := fun e => h2 e.symm
  obtain ⟨N, hN⟩ : ∃ N, numOf num s = N := ⟨_, rfl⟩
  rw [hN] at tn
  clear hT hT1 hh hq hr hnum hN
  go_enter Try.func135, Try.ntmps135
  go_wp2_with fail
  go_still_tail 6, (by kernel_rfl)
  change wpList _ _ _ _ _ w.drew
  obtain ⟨wd, hwd⟩ : ∃ wd, w.drew = wd := ⟨_, rfl⟩
  rw [hwd]
  have d5 : wd.cell? ⟨bn, s, none⟩ = some (.int .i64 N) := by rw [← hwd]; exact tn
  have df : wd.frozen? ⟨bn, s, none⟩ = false := by rw [← hwd]; exact tf
  have dBt : wd.cell? ⟨Bt, 0, none⟩ = some (.pointer (some ⟨bt, 0, none⟩)) := by rw [← hwd]; exact hBt
  have dBs : wd.cell? ⟨Bs, 0, none⟩ = some (.int .i64 (s : Int)) := by rw [← hwd]; exact hBs
  have dz : wd.heap.size = w.heap.size := by rw [← hwd]; rfl
  have dT : Hid (TabAt n (wd.setCell ⟨bn, s, none⟩ (.int .i64 v)) bt r best ba oa ca bn cn (num.set s v)) := by unfold Hid; rw [← hwd]; exact HT1.out.below ⟨rfl, rfl, rfl, Nat.le_refl _, fun _ _ => rfl⟩
  have dB : Hid (But bn w.heap.size w wd) := by unfold Hid; rw [← hwd]; exact (But.refl _ _ _).drew
  have k1 : (wd.setCell ⟨bn, s, none⟩ (.int .i64 v)).cell? ⟨Bt, 0, none⟩ = some (.pointer (some ⟨bt, 0, none⟩)) := by rw [World.cell?_setCell_far _ _ _ _ n1]; exact dBt
  have k2 : (wd.setCell ⟨bn, s, none⟩ (.int .i64 v)).cell? ⟨Bs, 0, none⟩ = some (.int .i64 (s : Int)) := by rw [World.cell?_setCell_far _ _ _ _ n2]; exact dBs
  clear hwd tn tf t5 hBt hBs dBt dBs
  go_wp2_with fail
  refine (HH.out _ (by simp; omega) dT.out).mono ?_
  rintro e w2 ⟨rfl, hb2⟩
  have hT2 := dT.out.below (hb2.mono (by simp; omega))
  have hB2 := (dB.out.setCell (p := ⟨bn, s, none⟩) (Or.inl rfl) (.int .i64 v)).trans (.of (hb2.mono (by simp; omega)))
  have HT2 := Lib.hid hT2
  have HB2 := Lib.hid hB2
  clear hT2 hB2 hb2
  go_wp2
  go_ret
  exact ⟨rfl, HT2.out, HB2.out⟩

/-- What holds between two tries: one number may have turned. -/
structure FillS (n bt s Bt Bs Bf : Nat) (r : Rules) (best : Bool) (ba oa ca bn cn : Nat) (num : List Int) (W : World) : Prop where
  size : n ≤ W.heap.size
  cf : W.cell? ⟨Bf, 0, none⟩ = some (.func (.func 135) #[] #[.pointer (some ⟨Bt, 0, none⟩), .pointer (some ⟨Bs, 0, none⟩)])
  ct : W.cell? ⟨Bt, 0, none⟩ = some (.pointer (some ⟨bt, 0, none⟩))
  cs : W.cell? ⟨Bs, 0, none⟩ = some (.int .i64 (s : Int))
  ltf : Bf < W.heap.size
  ltt : Bt < W.heap.size
  lts : Bs < W.heap.size
  nef : Bf ≠ bn
  net : Bt ≠ bn
  nes : Bs ≠ bn
  tab : ∃ v, 0 ≤ v ∧ v ≤ never ∧ TabAt n W bt r best ba oa ca bn cn (num.set s v)

theorem FillS.step {n bt s Bt Bs Bf : Nat} {r : Rules} {best : Bool} {ba oa ca bn cn : Nat} {num : List Int} {W W' : World} (h : FillS n bt s Bt Bs Bf r best ba oa ca bn cn num W) {v : Int} (hv : 0 ≤ v ∧ v ≤ never) (hT : TabAt n W' bt r best ba oa ca bn cn (num.set s v)) (hb : But bn W.heap.size W W') :
    FillS n bt s Bt Bs Bf r best ba oa ca bn cn num W' :=
  have k : ∀ b o, b < W.heap.size → b ≠ bn → W'.cell? ⟨b, o, none⟩ = W.cell? ⟨b, o, none⟩ := fun b o h1 h2 => hb.cell (p := ⟨b, o, none⟩) h1 h2
  ⟨Nat.le_trans h.size hb.size, (k _ _ h.ltf h.nef).trans h.cf, (k _ _ h.ltt h.net).trans h.ct, (k _ _ h.lts h.nes).trans h.cs, Nat.lt_of_lt_of_le h.ltf hb.size, Nat.lt_of_lt_of_le h.ltt hb.size, Nat.lt_of_lt_of_le h.lts hb.size, h.nef, h.net, h.nes, v, hv.1, hv.2, hT⟩

set_option maxRecDepth 100000 in
set_option maxHeartbeats 1000000 in
theorem fill2_any (n bt s Bt Bs Bf : Nat) (r : Rules) (best : Bool) (ba oa ca bn cn : Nat) (num : List Int) (k : Nat) (w : World) (hk : k < 1000000000) (hsn : s < num.length) (hr : RulesOk r) (hs60 : s ≤ r.start) (hs0 : lowest r.out ≤ (s : Int)) (hnum : NumOk num)
    (hS : FillS n bt s Bt Bs Bf r best ba oa ca bn cn num w) :
    Calls Try.prog 137 #[.int .i64 (k : Int), .pointer (some ⟨Bf, 0, none⟩)] w
      fun e w' => e = .returned (.bool (!holds r best (num.set s ((k : Int) + 1)) s)) ∧ FillS n bt s Bt Bs Bf r best ba oa ca bn cn num w' ∧ But bn w.heap.size w w' := by
  obtain ⟨v, hv0, hv1, hT⟩ := hS.tab
  have hb : 0 ≤ (k : Int) + 1 ∧ (k : Int) + 1 ≤ never := by unfold never; omega
  have ht := tried_any n bt s Bt Bs r best ba oa ca bn cn (num.set s v) ((k : Int) + 1) w (by rw [List.length_set]; exact hsn) hr hs60 hs0 (numOk_set hnum ⟨hv0, hv1⟩ s) hb hS.size hS.ct hS.cs hS.net hS.nes hT
  rw [List.set_set] at ht
  have cf := hS.cf
  have HS := Lib.hid hS
  have HT := Lib.hid ht
  have HB := Lib.hid hb
  obtain ⟨q, hq⟩ : ∃ q, holds r best (num.set s ((k : Int) + 1)) s = q := ⟨_, rfl⟩
  rw [hq] at HT ⊢
  clear hS ht hT hr hnum hq hb hv1
  go_enter Try.func137, Try.ntmps137
  go_wp2_with fail
  refine HT.out.mono ?_
  rintro e w2 ⟨rfl, hT2, hb2⟩
  have hS2 := HS.out.step HB.out hT2 hb2
  have HS2 := Lib.hid hS2
  have HB2 := Lib.hid hb2
  clear hT2 hb2 hS2
  go_wp2
  go_ret
  exact ⟨rfl, HS2.out, HB2.out⟩

set_option maxRecDepth 100000 in
set_option maxHeartbeats 1000000 in
theorem fill3_any (n bt s Bt Bs Bf : Nat) (r : Rules) (best : Bool) (ba oa ca bn cn : Nat) (num : List Int) (k : Nat) (w : World) (hk : k < 999000001) (hsn : s < num.length) (hr : RulesOk r) (hs60 : s ≤ r.start) (hs0 : lowest r.out ≤ (s : Int)) (hnum : NumOk num)
    (hS : FillS n bt s Bt Bs Bf r best ba oa ca bn cn num w) :
    Calls Try.prog 138 #[.int .i64 (k : Int), .pointer (some ⟨Bf, 0, none⟩)] w
      fun e w' => e = .returned (.bool (holds r best (num.set s (whole + (k : Int))) s)) ∧ FillS n bt s Bt Bs Bf r best ba oa ca bn cn num w' ∧ But bn w.heap.size w w' := by
  obtain ⟨v, hv0, hv1, hT⟩ := hS.tab
  have hb : 0 ≤ 1000000 + (k : Int) ∧ 1000000 + (k : Int) ≤ never := by unfold never; omega
  have ht := tried_any n bt s Bt Bs r best ba oa ca bn cn (num.set s v) (1000000 + (k : Int)) w (by rw [List.length_set]; exact hsn) hr hs60 hs0 (numOk_set hnum ⟨hv0, hv1⟩ s) hb hS.size hS.ct hS.cs hS.net hS.nes hT
  rw [List.set_set] at ht
  have cf := hS.cf
  have HS := Lib.hid hS
  have HT := Lib.hid ht
  have HB := Lib.hid hb
  show Calls Try.prog _ _ _ fun e w' => e = .returned (.bool (holds r best (num.set s (1000000 + (k : Int))) s)) ∧ _ ∧ _
  obtain ⟨q, hq⟩ : ∃ q, holds r best (num.set s (1000000 + (k : Int))) s = q := ⟨_, rfl⟩
  rw [hq] at HT ⊢
  clear hS ht hT hr hnum hq hb hv1
  go_enter Try.func138, Try.ntmps138
  go_wp2_with fail
  refine HT.out.mono ?_
  rintro e w2 ⟨rfl, hT2, hb2⟩
  have hS2 := HS.out.step HB.out hT2 hb2
  have HS2 := Lib.hid hS2
  have HB2 := Lib.hid hb2
  clear hT2 hb2 hS2
  go_wp2
  go_ret
  exact ⟨rfl, HS2.out, HB2.out⟩

set_option maxRecDepth 100000 in
set_option maxHeartbeats 1000000 in
theorem fill_any (n bt s : Nat) (r : Rules) (best : Bool) (ba oa ca bn cn : Nat) (num : List Int) (w : World) (hsn : s < num.length) (hr : RulesOk r) (hs60 : s ≤ r.start) (hs0 : lowest r.out ≤ (s : Int)) (hnum : NumOk num)
    (hn : n ≤ w.heap.size) (hT : TabAt n w bt r best ba oa ca bn cn num) :
    Calls Try.prog 94 #[.pointer (some ⟨bt, 0, none⟩), .int .i64 (s : Int)] w
      fun e w' => e = .returned (.tuple #[]) ∧ TabAt n w' bt r best ba oa ca bn cn (num.set s (fillN r best num s)) ∧ But bn w.heap.size w w' := by
  have hbn := hT.nlt
  have hbt := hT.lt
  have hne := hT.ne
  have HT := Lib.hid hT
  have HR := Lib.hid hr
  have HNUM := Lib.hid hnum
  have t4 := hT.c4
  have hsl : (s : Int) < (num.length : Int) := by omega
  have y1 : bt < w.heap.size := by omega
  have y2 : bt < w.heap.size + 1 := by omega
  have y3 : bt < w.heap.size + 1 + 1 := by omega
  clear hT hr hnum
  obtain ⟨wA, hwA⟩ : ∃ wA, ((w.alloc (Obj.cells #[Value.pointer (some ⟨bt, 0, none⟩)] 117)).alloc (Obj.cells #[Value.int IntKind.i64 (s : Int)] 3)).alloc (Obj.cells #[Value.func (.func 135) #[] #[.pointer (some ⟨w.heap.size, 0, none⟩), .pointer (some ⟨w.heap.size + 1, 0, none⟩)]] 129) = wA := ⟨_, rfl⟩
  have HWA := Lib.hid hwA
  have z : wA.heap.size = w.heap.size + 1 + 1 + 1 := by rw [← hwA]; simp
  have ab : Below w.heap.size w wA := by rw [← hwA]; exact (((Below.refl _ w).alloc (Nat.le_refl _) _).alloc (by simp) _).alloc (by simp <;> omega) _
  have hS : FillS n bt s w.heap.size (w.heap.size + 1) (w.heap.size + 1 + 1) r best ba oa ca bn cn num wA := by
    refine ⟨by omega, ?_, ?_, ?_, by omega, by omega, by omega, by omega, by omega, by omega, numOf num s, (numOf_bd HNUM.out s).1, (numOf_bd HNUM.out s).2, ?_⟩
    · rw [← hwA, cell_new _ _ _ _ _ _ (by simp)]; rfl
    · rw [← hwA, cell_old _ _ _ (by simp <;> omega), cell_old _ _ _ (by simp), cell_new _ _ _ _ _ _ rfl]; rfl
    · rw [← hwA, cell_old _ _ _ (by simp), cell_new _ _ _ _ _ _ (by simp)]; rfl
    · have : num.set s (numOf num s) = num := by
        apply List.ext_getElem?
        intro i
        by_cases e : s = i
        · subst e; simp [numOf, hsn]
        · rw [List.getElem?_set_ne e]
      rw [this]
      exact HT.out.below (ab.mono hn)
  have HS := Lib.hid hS
  have HAB := Lib.hid ab
  have HZ := Lib.hid z
  clear hwA hS ab z
  cases best with
  | true =>
    go_enter Try.func94, Try.ntmps94
    have hse := search_any 1000000000 137 #[.pointer (some ⟨w.heap.size + 1 + 1, 0, none⟩)] (fun k => !holds r true (num.set s ((k : Int) + 1)) s)
      (fun W => FillS n bt s w.heap.size (w.heap.size + 1) (w.heap.size + 1 + 1) r true ba oa ca bn cn num W ∧ But bn wA.heap.size wA W) wA (by decide) (enters_of Try.func137 (by kernel_rfl) rfl)
      (fun k W hk h => (fill2_any n bt s _ _ _ r true ba oa ca bn cn num k W hk hsn HR.out hs60 hs0 HNUM.out h.1).mono fun e W' hh => ⟨hh.1, hh.2.1, h.2.trans (hh.2.2.mono h.2.size)⟩) ⟨HS.out, But.refl _ _ _⟩
    have HSE := Lib.hid hse
    clear hse
    have hfin : fillN r true num s = ((search 1000000000 (fun k => !holds r true (num.set s ((k : Int) + 1)) s) : Nat) : Int) := by unfold fillN; rw [if_pos rfl]
    have HFIN := Lib.hid hfin
    clear hfin
    obtain ⟨R, hR⟩ : ∃ R, search 1000000000 (fun k => !holds r true (num.set s ((k : Int) + 1)) s) = R := ⟨_, rfl⟩
    rw [hR] at HSE HFIN
    clear hR
    go_wp2_with fail
    rw [HWA.out]
    refine HSE.out.mono ?_
    rintro e w2 ⟨rfl, hS2, hB2⟩
    obtain ⟨v, _, _, hT2⟩ := hS2.tab
    have u5 := hT2.c5
    rw [List.length_set] at u5
    have un := hT2.nums s (by rw [List.length_set]; exact hsn)
    have uf := hT2.free s
    have ut := hS2.ct
    have us := hS2.cs
    have hT3 := hT2.set s (R : Int) (by rw [List.length_set]; exact hsn)
    rw [List.set_set] at hT3
    have HT3 := Lib.hid hT3
    have HB2 := Lib.hid hB2
    have hz2 := hB2.size
    obtain ⟨N, hN⟩ : ∃ N, numOf (num.set s v) s = N := ⟨_, rfl⟩
    rw [hN] at un
    clear hT2 hS2 hT3 hB2 hN t4 y1 y2 y3
    go_wp2_with fail
    go_still_tail 6, (by kernel_rfl)
    go_wp2
    refine bodyPost_ret (results_none rfl _ _ _) rfl ?_
    have ab := HAB.out
    have z := HZ.out
    refine ⟨rfl, ?_, ?_⟩
    · rw [HFIN.out]; exact HT3.out.below (Below.refl _ _).drew
    · exact ((((But.of ab).trans (HB2.out.mono (by omega))).setCell (p := ⟨bn, s, none⟩) (Or.inl rfl) _).drew)
  | false =>
    go_enter Try.func94, Try.ntmps94
    have hse := search_any 999000001 138 #[.pointer (some ⟨w.heap.size + 1 + 1, 0, none⟩)] (fun k => holds r false (num.set s (whole + (k : Int))) s)
      (fun W => FillS n bt s w.heap.size (w.heap.size + 1) (w.heap.size + 1 + 1) r false ba oa ca bn cn num W ∧ But bn wA.heap.size wA W) wA (by decide) (enters_of Try.func138 (by kernel_rfl) rfl)
      (fun k W hk h => (fill3_any n bt s _ _ _ r false ba oa ca bn cn num k W hk hsn HR.out hs60 hs0 HNUM.out h.1).mono fun e W' hh => ⟨hh.1, hh.2.1, h.2.trans (hh.2.2.mono h.2.size)⟩) ⟨HS.out, But.refl _ _ _⟩
    have HSE := Lib.hid hse
    clear hse
    obtain ⟨R, hR⟩ : ∃ R, search 999000001 (fun k => holds r false (num.set s (whole + (k : Int))) s) = R := ⟨_, rfl⟩
    have hRn : R ≤ 999000001 := by rw [← hR]; exact (search_spec _ (by decide)).1
    have hfin : fillN r false num s = if whole + (R : Int) > maxV then never else whole + (R : Int) := by unfold fillN; rw [if_neg (by simp), hR]
    have HFIN := Lib.hid hfin
    clear hfin
    rw [hR] at HSE
    clear hR
    have step : ∀ (W : World), FillS n bt s w.heap.size (w.heap.size + 1) (w.heap.size + 1 + 1) r false ba oa ca bn cn num W → Hid (FillS n bt s w.heap.size (w.heap.size + 1) (w.heap.size + 1 + 1) r false ba oa ca bn cn num W) := fun _ h => h
    go_wp2_with fail
    rw [HWA.out]
    refine HSE.out.mono ?_
    rintro e w2 ⟨rfl, hS2, hB2⟩
    obtain ⟨v, _, _, hT2⟩ := hS2.tab
    have u5 := hT2.c5
    rw [List.length_set] at u5
    have un := hT2.nums s (by rw [List.length_set]; exact hsn)
    have uf := hT2.free s
    have ut := hS2.ct
    have us := hS2.cs
    have hT3 := hT2.set s (1000000 + (R : Int)) (by rw [List.length_set]; exact hsn)
    rw [List.set_set] at hT3
    have HT3 := Lib.hid hT3
    have HB2 := Lib.hid hB2
    have hz2 := hB2.size
    obtain ⟨N, hN⟩ : ∃ N, numOf (num.set s v) s = N := ⟨_, rfl⟩
    rw [hN] at un
    clear hT2 hS2 hT3 hB2 hN t4 y1 y2 y3 step
    go_wp2_with fail
    go_still_tail 7, (by kernel_rfl)
    go_wp2_with fail
    obtain ⟨w4, hw4⟩ : ∃ w4, (w2.setCell ⟨bn, s, none⟩ (Value.int .i64 (1000000 + (R : Int)))).drew = w4 := ⟨_, rfl⟩
    rw [hw4]
    have z := HZ.out
    have hT4 : TabAt n w4 bt r false ba oa ca bn cn (num.set s (1000000 + (R : Int))) := by rw [← hw4]; exact HT3.out.below (Below.refl _ _).drew
    have v5 := hT4.c5
    rw [List.length_set] at v5
    have vn := hT4.nums s (by rw [List.length_set]; exact hsn)
    rw [show numOf (num.set s (1000000 + (R : Int))) s = 1000000 + (R : Int) by simp [numOf, hsn]] at vn
    have vf := hT4.free s
    have nt : ¬ (bn = w.heap.size) := by omega
    have ns : ¬ (bn = w.heap.size + 1) := by omega
    have vt : w4.cell? ⟨w.heap.size, 0, none⟩ = some (.pointer (some ⟨bt, 0, none⟩)) := by rw [← hw4]; exact (World.cell?_setCell_far w2 _ _ _ nt).trans ut
    have vs : w4.cell? ⟨w.heap.size + 1, 0, none⟩ = some (.int .i64 (s : Int)) := by rw [← hw4]; exact (World.cell?_setCell_far w2 _ _ _ ns).trans us
    have hB4 : But bn w.heap.size w w4 := by rw [← hw4]; exact ((((But.of HAB.out).trans (HB2.out.mono (by omega))).setCell (p := ⟨bn, s, none⟩) (Or.inl rfl) _).drew)
    have HT4 := Lib.hid hT4
    have HB4 := Lib.hid hB4
    clear hw4 hT4 hB4 u5 un uf ut us z hz2
    by_cases hbig : (1000000000 : Int) < 1000000 + (R : Int)
    · have hT5 := HT4.out.set s never (by rw [List.length_set]; exact hsn)
      rw [List.set_set] at hT5
      have HT5 := Lib.hid hT5
      clear hT5
      go_quiet (fail)
      go_wp2_with fail
      obtain ⟨w5, hw5⟩ : ∃ w5, w4.drewN nq = w5 := ⟨_, rfl⟩
      rw [hw5]
      have x5 : w5.cell? ⟨bt, 5, none⟩ = some (.slice (some ⟨bn, 0, none⟩) num.length cn) := by rw [← hw5]; exact v5
      have xn : w5.cell? ⟨bn, s, none⟩ = some (.int .i64 (1000000 + (R : Int))) := by rw [← hw5]; exact vn
      have xf : w5.frozen? ⟨bn, s, none⟩ = false := by rw [← hw5]; exact vf
      have xt : w5.cell? ⟨w.heap.size, 0, none⟩ = some (.pointer (some ⟨bt, 0, none⟩)) := by rw [← hw5]; exact vt
      have xs : w5.cell? ⟨w.heap.size + 1, 0, none⟩ = some (.int .i64 (s : Int)) := by rw [← hw5]; exact vs
      have HB5 : Hid (But bn w.heap.size w w5) := by unfold Hid; rw [← hw5]; exact HB4.out.drewN _
      have HT6 : Hid (TabAt n (w5.setCell ⟨bn, s, none⟩ (.int .i64 never)) bt r false ba oa ca bn cn (num.set s never)) := by unfold Hid; rw [← hw5]; exact HT5.out.below ⟨rfl, rfl, rfl, Nat.le_refl _, fun _ _ => rfl⟩
      clear hw5 v5 vn vf vt vs
      go_still_tail 5, (by kernel_rfl)
      go_wp2
      go_end0
      refine ⟨rfl, ?_, ?_⟩
      · rw [HFIN.out, if_pos (by unfold whole maxV; omega)]; exact HT6.out.below (Below.refl _ _).drew
      · exact ((HB5.out.setCell (p := ⟨bn, s, none⟩) (Or.inl rfl) _).drew)
    · go_quiet (fail)
      go_wp2
      go_end0
      refine ⟨rfl, ?_, ?_⟩
      · rw [HFIN.out, if_neg (by unfold whole maxV; omega)]; exact HT4.out.below (bDrewN (Below.refl _ _) _)
      · exact HB4.out.drewN _

end Go.Proofs.Ytnaehbgmfajdjaa
