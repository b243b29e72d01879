/- visit of the statements' package: the mean number of visits by aims and truths. -/
import Derived.Deep.DeepCutAuto
import Derived.Test.YtnaehbgmfajdjaaTru
import Derived.Test.YtnaehbgmfajdjaaLawB
import Derived.Test.YtnaehbgmfajdjaaLawPure
namespace Go.Proofs.Ytnaehbgmfajdjaa
open Go.RowKit AimP

/-- The truths that visit goes by. -/
def trOf (r : Rules) (aim : Nat → Int → Nat) (G : Nat → Nat) (d : Nat) (x : Int) : List Int := ((r.aims[aim d x]?).map fun a => truthP a.2 G (5 * x.toNat + d)).getD []

theorem dot_take (t v : List Int) : ∀ j a b, t[j]? = some a → v[j]? = some b → dot (t.take (j + 1)) (v.take (j + 1)) = dot (t.take j) (v.take j) + a * b := by
  induction t generalizing v with
  | nil => intro j a b h; simp at h
  | cons t0 t ih =>
    intro j a b ha hb
    cases v with
    | nil => simp at hb
    | cons v0 v =>
      cases j with
      | zero =>
        simp at ha hb
        subst ha hb
        have h0 : ∀ l : List Int, dot [] l = 0 := fun l => by cases l <;> rfl
        simp [dot, h0]
      | succ j =>
        have := ih v j a b (by simpa using ha) (by simpa using hb)
        simp only [List.take_succ_cons, dot, this]
        omega

/-- An aim's own variable. -/
def R10 (wq : World) (at0 : Int) (bb ob n c : Nat) (a : Value) (wx : World) : Prop := ∃ D, a = .pointer (some ⟨D, 0, none⟩) ∧ Hid (Below wq.heap.size wq wx) ∧ Hid (wx.heap[D]? = some (.cells #[.int .i64 at0, .slice (some ⟨bb, ob, none⟩) n c] 56 (0, 0))) ∧ D < wx.heap.size

set_option maxRecDepth 100000 in
set_option maxHeartbeats 4000000 in
theorem visit_any (r : Rules) (ba oa ca s bv ov nv cv : Nat) (num : List Int) (g : Nat) (cap : Array Value) (aim : Nat → Int → Nat) (pb : Option Addr) (nb cb : Nat) (fb : Nat → Nat) (up : Int) (w : World) (eg : ∀ args w, (callFunc g args).run Try.prog w = .ok (.enter g args) w)
    (hr : RulesOk r) (hden : r.den = 24) (hA : AimsAt w.heap.size w ba oa r.aims) (hs0 : lowest r.out ≤ s) (hs : s ≤ 60) (hbv : bv < w.heap.size) (hnv : s < nv) (hnv1 : nv ≤ 100) (hv : ∀ x : Nat, x < nv → w.cell? ⟨bv, ov + x, none⟩ = some (.int .i64 (numOf num x))) (hnum : NumOk num)
    (hL : ListAt w .u8 pb nb fb) (hfb : ∀ j, fb j < 256) (hup : up = 0 ∨ up = 1) (haim : ∀ d x, aim d x < r.aims.length)
    (hf : ∀ (d x : Nat) (W : World), 1 ≤ d → d ≤ 3 → lowest r.out ≤ x → x ≤ s → (d < 3 ∨ x = s) → Below w.heap.size w W → Calls Try.prog g (#[.int .i64 x, .int .i64 d] ++ cap) W fun e W' => e = .returned (.int .i64 (aim d x)) ∧ Below W.heap.size W W') :
    Calls Try.prog 17 #[rulesV r ba oa ca, .int .i64 s, .slice (some ⟨bv, ov, none⟩) nv cv, .func (.func g) #[] cap, .slice pb nb cb, .int .i64 up] w
      fun e w' => e = .returned (.int .i64 (whole + stepV r num s aim (trOf r aim (byteP nb fb)) up 3 s)) ∧ Below w.heap.size w w' := by
  obtain ⟨i0, hi, hz0, hz1, hz2⟩ := info_parts infoInt
  have hlo := lowest_bd r.out
  have ho0 := hr.out0
  have ho1 := hr.out
  have htr : ∀ (d : Nat) (x : Int) a, lowest r.out ≤ x → x ≤ s → r.aims[aim d x]? = some a → Tr a.2 24 (trOf r aim (byteP nb fb) d x) := fun d x a _ _ ha => by
    unfold trOf
    rw [ha]
    exact truth_tr (by have := (hr.aims a (List.mem_of_getElem? ha)); rwa [hden] at this) _ _
  have hsb := stepV_bd hr hden (visits := num) (s := s) (c := never) (by unfold never; omega) hs0 (up := up) hup htr (fun x _ _ => numOf_bd hnum x)
  obtain ⟨SV, hSV⟩ : ∃ SV, stepV r num s aim (trOf r aim (byteP nb fb)) up = SV := ⟨_, rfl⟩
  have hS0 : ∀ x, SV 0 x = numOf num x := fun x => by rw [← hSV]; rfl
  have hS1 : ∀ (d : Nat) (x : Nat) a, r.aims[aim (d + 1) x]? = some a → SV (d + 1) x = (up * 23 + dot (truthP a.2 (byteP nb fb) (5 * x + (d + 1))) (a.2.map fun b => nextV r.out num s (SV d) x b.bed)) / 24 := fun d x a ha => by
    rw [← hSV, stepV, trOf, ha]
    simp
  rw [hSV] at hsb ⊢
  have hup2 : 0 ≤ up ∧ up ≤ 1 := by omega
  obtain ⟨s1, hs1⟩ : ∃ s1 : Nat, s + 1 = s1 := ⟨_, rfl⟩
  have hs1z : (s : Int) + 1 = (s1 : Int) := by omega
  have hs1n : s < s1 := by omega
  have hs1m : s1 ≤ 61 := by omega
  have HR := Lib.hid hr
  have HDEN := Lib.hid hden
  have HA := Lib.hid hA
  have HV := Lib.hid hv
  have HNUM := Lib.hid hnum
  have HL := Lib.hid hL
  have HFB := Lib.hid hfb
  have HAIM := Lib.hid haim
  have HF := Lib.hid hf
  have HSB := Lib.hid hsb
  have HS0 := Lib.hid hS0
  have HS1 := Lib.hid hS1
  have HI := Lib.hid hi
  have HZ0 := Lib.hid hz0
  have HZ1 := Lib.hid hz1
  have HZ2 := Lib.hid hz2
  have HSS := Lib.hid hs1
  clear hr hden hA hv hnum hL hfb hup haim hf hsb hS0 hS1 hSV htr hi hz0 hz1 hz2 hs1
  have hlc := fun W => lowestL_any r.out (lowest r.out) W rfl
  have HRV : Hid (rulesV r ba oa ca = .agg #[.int .i64 r.den, .slice (some ⟨ba, oa, none⟩) r.aims.length ca, .int .i64 (r.start : Int), .int .i64 r.out]) := rfl
  unfold rulesV
  obtain ⟨den, hden⟩ : ∃ den, r.den = den := ⟨_, rfl⟩
  obtain ⟨out, hout⟩ : ∃ out, r.out = out := ⟨_, rfl⟩
  obtain ⟨lo, hlo'⟩ : ∃ lo : Nat, (lowest r.out).toNat = lo := ⟨_, rfl⟩
  have hloz : lowest r.out = (lo : Int) := by omega
  rw [hloz] at hlc hs0 hlo
  rw [hden, hout] at HRV ⊢
  rw [hout] at hlc ho0 ho1
  have HLC := Lib.hid hlc
  have HLZ := Lib.hid hloz
  have HD := Lib.hid hden
  have HO := Lib.hid hout
  have hlo1 : 1 ≤ lo := by omega
  have hlo2 : lo ≤ s := by omega
  clear hlc hden hout hloz hlo'
  go_enter Try.func17, Try.ntmps17
  go_wp2_with fail
  obtain ⟨wa, hwa⟩ : ∃ wa, w.alloc (Obj.cells #[.int .i64 den, .slice (some ⟨ba, oa, none⟩) r.aims.length ca, .int .i64 (r.start : Int), .int .i64 out] 31) = wa := ⟨_, rfl⟩
  have hBa : Below w.heap.size w wa := by rw [← hwa]; exact (Below.refl _ _).alloc (Nat.le_refl _) _
  have o0 : wa.heap[w.heap.size]? = some (.cells #[.int .i64 den, .slice (some ⟨ba, oa, none⟩) r.aims.length ca, .int .i64 (r.start : Int), .int .i64 out] 31 (0, 0)) := by rw [← hwa]; exact World.alloc_heap_new _ _
  have za : w.heap.size < wa.heap.size := by rw [← hwa]; simp
  have HBA := Lib.hid hBa
  have HO0 := Lib.hid o0
  rw [hwa]
  clear hwa hBa o0
  go_loopw [13, 14] (fun dv di wr => ∃ (d bd od nd cd : Nat), d ≤ 3 ∧ di = .int .i64 ((d : Int) + 1) ∧ dv = .slice (some ⟨bd, od, none⟩) nd cd ∧ Hid (Below w.heap.size w wr) ∧ Hid (wr.heap[w.heap.size]? = some (.cells #[.int .i64 den, .slice (some ⟨ba, oa, none⟩) r.aims.length ca, .int .i64 (r.start : Int), .int .i64 out] 31 (0, 0))) ∧
      bd < wr.heap.size ∧ nd ≤ 100 ∧ Hid (∀ x : Nat, lo ≤ x → x ≤ s → (d < 3 ∨ x = s) → x < nd ∧ wr.cell? ⟨bd, od + x, none⟩ = some (.int .i64 (SV d x))) ∧ w.heap.size < wr.heap.size) (fun _ di _ => (4 - intOf di).toNat)
  case atStart =>
    refine ⟨0, bv, ov, nv, cv, by omega, rfl, rfl, HBA.out, HO0.out, by omega, hnv1, (fun x _ hx _ => ⟨by omega, ?_⟩ : ∀ x : Nat, lo ≤ x → x ≤ s → (0 < 3 ∨ x = s) → x < nv ∧ wa.cell? ⟨bv, ov + x, none⟩ = some (.int .i64 (SV 0 x))), za⟩
    rw [HS0.out]
    exact (HBA.out.cell (p := ⟨bv, ov + x, none⟩) hbv).trans (HV.out x (by omega))
  case round =>
    obtain ⟨d, bd, od, nd, cd, hd3, rfl, rfl, hBr, hq0, hbdr, hnd, hdc, zr⟩ := hrel
    clear HBA HO0 za
    obtain ⟨wo, rfl⟩ : ∃ wo : World, wo = wr := ⟨_, rfl⟩
    by_cases hd : d < 3
    · have hdz : (d : Int) + 1 ≤ 3 := by omega
      have x3 : wo.cell? ⟨w.heap.size, 3, none⟩ = some (.int .i64 out) := by simp [World.cell?, hq0.out]
      go_wp2_with (at_make; refine wpList_make_full _ rfl _ _ 33 rfl wo.heap.size 3 i0 (.int .i64 0) 1 Try.underlying33 HI.out HZ0.out HZ1.out .i64 .i64 _ _ s1 rfl rfl rfl rfl (by rw [HZ2.out]; omega) (by unfold maxLen; omega) (by omega) ?_)
      intro w1 hown hgrow
      have hz1 := hgrow.size
      have hb1 : Below wo.heap.size wo w1 := grown_below hgrow (Nat.le_refl _) (fun k hk => by simp at hk)
      have hq1 := (hb1.block _ zr).trans hq0.out
      have x3 : w1.cell? ⟨w.heap.size, 3, none⟩ = some (.int .i64 out) := by simp [World.cell?, hq1]
      have HOWN := Lib.hid hown
      have HB1 := Lib.hid hb1
      clear hown hgrow hb1 hq1
      go_wp2_with (go_at_call 15; refine (HLC.out _).mono ?_; rintro e w' ⟨rfl, rfl⟩)
      go_loopw [16] (fun lv wr => ∃ (x : Nat) (ys : List Int), lv = .int .i64 x ∧ lo ≤ x ∧ x ≤ s1 ∧ Hid (ys.length = s1) ∧ Hid (wr.ownsRow wo.heap.size 3 1 (.slice (some ⟨wo.heap.size, 0, none⟩) s1 s1) s1 (ys.map (Value.int .i64))) ∧ Hid (∀ y : Nat, lo ≤ y → y < x → (d + 1 < 3 ∨ y = s) → getI ys y = SV (d + 1) y) ∧ Hid (Below wo.heap.size wo wr) ∧ wo.heap.size < wr.heap.size) (fun lv _ => s1 + 1 - (intOf lv).toNat)
      case atStart =>
        refine ⟨lo, List.replicate s1 0, rfl, Nat.le_refl _, by omega, (by simp : (List.replicate s1 (0 : Int)).length = s1), ?_, (fun y h1 h2 => by omega : ∀ y : Nat, lo ≤ y → y < lo → (d + 1 < 3 ∨ y = s) → getI (List.replicate s1 0) y = SV (d + 1) y), HB1.out, ?_⟩
        · show World.ownsRow _ _ _ _ _ _ _
          rw [List.map_replicate, ← toList_madeCells_one]
          exact HOWN.out
        · exact (HOWN.out.lt _ rfl).2
      case round =>
        obtain ⟨x, ys, rfl, hlx, hx1, hyl, hyo, hyv, hbr, hzr⟩ := hrel
        clear HOWN HB1 x3 hz1
        by_cases hxs : x ≤ s
        · by_cases hcont : d = 2 ∧ x < s
          · obtain ⟨rfl, hxl⟩ := hcont
            have hxl' : (x : Int) < (s : Int) := by omega
            have hxx : (x : Int) ≤ (s : Int) := by omega
            have hd3' : (((2 : Nat) : Int) + 1 == 3) = true := by decide
            go_wp2
            go_roundw
            case rel =>
              refine ⟨x + 1, ys, by go_num, by omega, by omega, hyl, hyo, (fun y h1 h2 h3 => ?_ : ∀ y : Nat, lo ≤ y → y < x + 1 → (2 + 1 < 3 ∨ y = s) → getI ys y = SV (2 + 1) y), hbr, hzr⟩
              exact hyv.out y h1 (by omega) h3
            case measure => simp [intOf]; omega
          · have hdx : d + 1 < 3 ∨ x = s := by omega
            have hgd : (((d : Int) + 1 == 3) = false) ∨ ((((d : Int) + 1 == 3) = true) ∧ ¬ (x : Int) < (s : Int)) := by
              by_cases h2 : d = 2
              · right; subst h2; exact ⟨by decide, by omega⟩
              · left; rw [beq_eq_false_iff_ne]; omega
            have hxx : (x : Int) ≤ (s : Int) := by omega
            obtain ⟨a, hai⟩ : ∃ a, r.aims[aim (d + 1) x]? = some a := ⟨_, List.getElem?_eq_getElem (HAIM.out _ _)⟩
            have hsv := HS1.out d x a hai
            have hsvb := HSB.out (d + 1) x (by rw [HLZ.out]; omega) (by omega)
            have hok := HR.out.aims a (List.mem_of_getElem? hai)
            rw [HDEN.out] at hok
            have haz := HAIM.out (d + 1) x
            have hcall := fun W (hW : Below w.heap.size w W) => HF.out (d + 1) x W (by omega) (by omega) (by rw [HLZ.out]; omega) hxs hdx hW
            obtain ⟨ai, hai'⟩ : ∃ ai, aim (d + 1) x = ai := ⟨_, rfl⟩
            rw [hai'] at hai haz hcall
            rw [Int.natCast_add] at hcall
            have hbw : Below w.heap.size w wr := hBr.out.trans (hbr.out.mono (by omega))
            obtain ⟨a0, bb, ob, bc, a1, hbb, hbd⟩ := (HA.out.below hbw).2 ai a hai
            have hba := HA.out.1
            have hq1 := (hbr.out.block _ zr).trans hq0.out
            have x1 : wr.cell? ⟨w.heap.size, 1, none⟩ = some (.slice (some ⟨ba, oa, none⟩) r.aims.length ca) := by simp [World.cell?, hq1]
            have hl5 := hok.len
            have hl1 := hok.len1
            have haz' : (ai : Int) < (r.aims.length : Int) := by omega
            obtain ⟨at0, hat0⟩ : ∃ at0, a.1 = at0 := ⟨_, rfl⟩
            obtain ⟨bl, hbl⟩ : ∃ bl, a.2 = bl := ⟨_, rfl⟩
            rw [hat0] at a0
            rw [hbl] at a1 hbd hok hsv hl5 hl1
            obtain ⟨ln, hln⟩ : ∃ ln, bl.length = ln := ⟨_, rfl⟩
            rw [hln] at a1 hl5 hl1
            have HCALL := Lib.hid hcall
            have HBW := Lib.hid hbw
            have HBD := Lib.hid hbd
            have HOK := Lib.hid hok
            have HSV1 := Lib.hid hsv
            have HLN := Lib.hid hln
            have HQ1 := Lib.hid hq1
            clear hai hcall hbw hbd hok hsv hln hat0 hbl hai' hcont hq1
            obtain ⟨wq, rfl⟩ : ∃ wq : World, wq = wr := ⟨_, rfl⟩
            go_upto_region 9 with (fail)
            go_cut [43] (fun c wx => c = .bool false ∧ wx = wq)
            case first =>
              rcases hgd with hgd | ⟨hgd, hgd2⟩
              · go_wp2
                go_meet
                exact ⟨rfl, rfl⟩
              · go_wp2
                go_meet
                exact ⟨rfl, rfl⟩
            case rest =>
              obtain ⟨rfl, rfl⟩ := hcut
              obtain ⟨wq, rfl⟩ : ∃ wq : World, wq = wc := ⟨_, rfl⟩
              clear hgd
              go_upto_region 10 with (fail)
              go_cut [17] (fun pa wx => R10 wq at0 bb ob ln bc pa wx)
              case first =>
                have hzw : w.heap.size < wq.heap.size := by omega
                have hbab : ba < wq.heap.size := by omega
                have hba2 : ∀ W : World, Below wq.heap.size wq W → Below w.heap.size w W := fun W hW => HBW.out.trans (hW.mono (by omega))
                have hS : ∀ W : World, Below wq.heap.size wq W → W.cell? ⟨w.heap.size, 1, none⟩ = some (.slice (some ⟨ba, oa, none⟩) r.aims.length ca) ∧ W.cell? ⟨ba, oa + ai * 2, none⟩ = some (.int .i64 at0) ∧ W.cell? ⟨ba, oa + ai * 2 + 1, none⟩ = some (.slice (some ⟨bb, ob, none⟩) ln bc) := fun W hW =>
                  ⟨(hW.cell (p := ⟨w.heap.size, 1, none⟩) hzw).trans x1, (hW.cell (p := ⟨ba, oa + ai * 2, none⟩) hbab).trans a0, (hW.cell (p := ⟨ba, oa + ai * 2 + 1, none⟩) hbab).trans a1⟩
                have hdr : Below wq.heap.size wq wq.drew := ⟨rfl, rfl, rfl, Nat.le_refl _, fun _ _ => rfl⟩
                have hal : ∀ o, Below wq.heap.size wq (wq.alloc o).drew := fun o => ((Below.refl _ wq).alloc (Nat.le_refl _) o).trans ⟨rfl, rfl, rfl, Nat.le_refl _, fun _ _ => rfl⟩
                have HST := Lib.hid hS
                have HW2 := Lib.hid hba2
                have HDR := Lib.hid hdr
                have HAL := Lib.hid hal
                clear hS hba2 hdr hal x1 a0 a1
                refine wp_region_plan (fun W => W.cell? ⟨w.heap.size, 1, none⟩ = some (.slice (some ⟨ba, oa, none⟩) r.aims.length ca) ∧ W.cell? ⟨ba, oa + ai * 2, none⟩ = some (.int .i64 at0) ∧ W.cell? ⟨ba, oa + ai * 2 + 1, none⟩ = some (.slice (some ⟨bb, ob, none⟩) ln bc)) 10 (.take 0 (.take 1 (.take 2 (.take 3 (.take 4 (.take 5 (.two 6 (.take 7 (.take 8 (.one 9 (.tail 10 .done)))) 9 (.one 6 (.take 7 (.take 8 (.tail 10 .done))))))))))) (by kernel_rfl) (by kernel_rfl) (HST.out _ HDR.out) ?_
                repeat (refine plan_take (o := ?_) (v := ?_) ?_ ?_ ?_ ?_ ?_; rotate_left 2; (focus rfl); (focus rfl); (focus (intro W hSw; (try dsimp only at hSw); go_simp; (try with_reducible rfl))); (focus exact fun _ _ _ h => h); (try simp only [Act.put, List.setIfInBounds_toArray, List.set_cons_zero, List.set_cons_succ]))
                refine plan_two (o := ?_) (o' := ?_) ?_ ?_ (fun K hK => ?_) (fun K hK => ?_)
                rotate_left 2
                (focus rfl)
                (focus rfl)
                · go_simp
                  refine (HCALL.out _ (HW2.out _ HDR.out)).mono ?_
                  rintro e w3 ⟨rfl, hb3⟩
                  (try go_wp2_with fail)
                  have hb4 : Below wq.heap.size wq w3 := HDR.out.trans hb3
                  refine hK.out _ _ (HST.out _ hb4) ?_
                  clear hK K
                  (try simp only [Act.put, List.setIfInBounds_toArray, List.set_cons_zero, List.set_cons_succ])
                  have HB4 := Lib.hid hb4
                  clear hb3 hb4
                  repeat (refine plan_take (o := ?_) (v := ?_) ?_ ?_ ?_ ?_ ?_; rotate_left 2; (focus rfl); (focus rfl); (focus (intro W hSw; (try dsimp only at hSw); go_simp; (try with_reducible rfl))); (focus exact fun _ _ _ h => h); (try simp only [Act.put, List.setIfInBounds_toArray, List.set_cons_zero, List.set_cons_succ]))
                  refine plan_one (o := ?_) ?_ (fun K hK => ?_)
                  rotate_left 1
                  (focus rfl)
                  go_simp
                  refine hK.out _ _ (HST.out _ (HB4.out.trans ((Below.refl _ w3).alloc HB4.out.size _))) ?_
                  clear hK K
                  (try simp only [Act.put, List.setIfInBounds_toArray, List.set_cons_zero, List.set_cons_succ])
                  refine plan_tail (o := ?_) ?_ (fun K hK => ?_)
                  rotate_left 1
                  (focus rfl)
                  go_simp
                  refine hK.out _ _ ?_
                  clear hK K
                  refine plan_done ?_
                  go_wp2_with fail
                  go_meet
                  exact ⟨w3.heap.size, rfl, HB4.out.trans ((Below.refl _ w3).alloc HB4.out.size _), World.alloc_heap_new _ _, by simp⟩
                · go_simp
                  refine hK.out _ _ (HST.out _ (HAL.out _)) ?_
                  clear hK K
                  (try simp only [Act.put, List.setIfInBounds_toArray, List.set_cons_zero, List.set_cons_succ])
                  refine plan_one (o := ?_) ?_ (fun K hK => ?_)
                  rotate_left 1
                  (focus rfl)
                  go_simp
                  have hnb := World.alloc_heap_new wq (Obj.cells #[.int .i64 0, .slice none 0 0] 56)
                  refine (HCALL.out _ (HW2.out _ (HAL.out _))).mono ?_
                  rintro e w3 ⟨rfl, hb3⟩
                  (try go_wp2_with fail)
                  have hsz : (wq.alloc (Obj.cells #[.int .i64 0, .slice none 0 0] 56)).drew.heap.size = wq.heap.size + 1 := World.size_alloc _ _
                  have hb4 : Below wq.heap.size wq w3 := (HAL.out _).trans (hb3.mono (by rw [hsz]; omega))
                  have hz3 := hb3.size
                  rw [hsz] at hz3
                  have hq3 : w3.heap[wq.heap.size]? = some (.cells #[.int .i64 0, .slice none 0 0] 56 (0, 0)) := (hb3.block _ (by rw [hsz]; omega)).trans hnb
                  have e0 : w3.cell? ⟨wq.heap.size, 0, none⟩ = some (.int .i64 0) := by simp [World.cell?, hq3]
                  have e1 : w3.cell? ⟨wq.heap.size, 1, none⟩ = some (.slice none 0 0) := by simp [World.cell?, hq3]
                  have f0 : w3.frozen? ⟨wq.heap.size, 0, none⟩ = false := by simp [World.frozen?, hq3]
                  have f1 : w3.frozen? ⟨wq.heap.size, 1, none⟩ = false := by simp [World.frozen?, hq3]
                  refine hK.out _ _ (HST.out _ hb4) ?_
                  clear hK K
                  (try simp only [Act.put, List.setIfInBounds_toArray, List.set_cons_zero, List.set_cons_succ])
                  have HB4 := Lib.hid hb4
                  have HQ3 := Lib.hid hq3
                  clear hb3 hb4 hsz hnb hq3
                  repeat (refine plan_take (o := ?_) (v := ?_) ?_ ?_ ?_ ?_ ?_; rotate_left 2; (focus rfl); (focus rfl); (focus (intro W hSw; (try dsimp only at hSw); go_simp; (try with_reducible rfl))); (focus exact fun _ _ _ h => h); (try simp only [Act.put, List.setIfInBounds_toArray, List.set_cons_zero, List.set_cons_succ]))
                  refine plan_tail (o := ?_) ?_ (fun K hK => ?_)
                  rotate_left 1
                  (focus rfl)
                  go_simp
                  refine hK.out _ _ ?_
                  clear hK K
                  refine plan_done ?_
                  go_wp2_with fail
                  go_meet
                  exact ⟨wq.heap.size, rfl, HB4.out.trans (((Below.refl _ w3).setCell (p := ⟨wq.heap.size, 0, none⟩) (Nat.le_refl _) _).setCell (p := ⟨wq.heap.size, 1, none⟩) (Nat.le_refl _) _), setCell_block (setCell_block HQ3.out), by simp [World.setCell]; omega⟩
              case rest =>
                obtain ⟨D, rfl, hBx, hDx, lDx⟩ := hcut
                obtain ⟨wp, rfl⟩ : ∃ wp : World, wp = wc := ⟨_, rfl⟩
                have hbwp : Below w.heap.size w wp := HBW.out.trans (hBx.out.mono (by omega))
                have d0 : wp.cell? ⟨D, 0, none⟩ = some (.int .i64 at0) := by simp [World.cell?, hDx.out]
                have d1 : wp.cell? ⟨D, 1, none⟩ = some (.slice (some ⟨bb, ob, none⟩) ln bc) := by simp [World.cell?, hDx.out]
                have hbdp := HBD.out.below hBx.out (by omega)
                have htru := truth_any at0 bb ob bc bl pb nb cb fb (5 * x + (d + 1)) wp HOK.out (by have := hBx.out.size; omega) hbdp (HL.out.below hbwp) HFB.out (by omega)
                rw [HLN.out] at htru
                have hat : (5 * (x : Int) + ((d : Int) + 1)) = ((5 * x + (d + 1) : Nat) : Int) := by omega
                rw [← hat] at htru
                have HTRU := Lib.hid htru
                have HBP := Lib.hid hbwp
                have HBDP := Lib.hid hbdp
                clear htru hat hbwp hbdp x1 a0 a1
                go_wp2_with (go_at_call 22; refine HTRU.out.mono ?_; rintro e w4 ⟨gt, cpt, rfl, hb4, hown4⟩)
                have hts := truth_tr HOK.out (byteP nb fb) (5 * x + (d + 1))
                have htl := hts.length
                obtain ⟨ts, hts'⟩ : ∃ ts, truthP bl (byteP nb fb) (5 * x + (d + 1)) = ts := ⟨_, rfl⟩
                rw [hts'] at hts htl hown4
                have hsv := HSV1.out
                rw [hts'] at hsv
                obtain ⟨vs, hvs⟩ : ∃ vs, (bl.map fun b => nextV r.out num s (SV d) x b.bed) = vs := ⟨_, rfl⟩
                rw [hvs] at hsv
                have hvl : vs.length = ln := by rw [← hvs, List.length_map, HLN.out]
                have hvb : ∀ v ∈ vs, 0 ≤ v ∧ v ≤ never := by
                  intro v hv
                  rw [← hvs] at hv
                  obtain ⟨b, hb, rfl⟩ := List.mem_map.1 hv
                  have hb0 := score_nonneg (HOK.out.beds b hb).1
                  unfold nextV
                  split
                  · simp [never]
                  · split
                    · exact numOf_bd HNUM.out _
                    · exact HSB.out d _ (by omega) (by omega)
                have hDT : ∀ j, j ≤ ln → 0 ≤ dot (ts.take j) (vs.take j) ∧ dot (ts.take j) (vs.take j) ≤ j * 48000000000 := by
                  intro j
                  induction j with
                  | zero => intro _; simp [dot]
                  | succ j ih =>
                    intro hj
                    have h1 := ih (by omega)
                    have hjt : j < ts.length := by rw [htl, HLN.out]; omega
                    have hjv : j < vs.length := by omega
                    have ha : ts[j]? = some ts[j] := List.getElem?_eq_getElem hjt
                    have hb : vs[j]? = some vs[j] := List.getElem?_eq_getElem hjv
                    rw [dot_take ts vs j _ _ ha hb]
                    have k1 := hts.nonneg HOK.out.small ha
                    have k2 := (hts.get (List.getElem?_eq_getElem (show j < bl.length by rw [HLN.out]; omega)) ha).2.1
                    have k3 := (HOK.out.small _ (List.getElem_mem (show j < bl.length by rw [HLN.out]; omega))).2.2
                    have k4 := hvb _ (List.getElem_mem hjv)
                    have k5 := Int.mul_nonneg k1 k4.1
                    have k6 : ts[j] * vs[j] ≤ 24 * never := Int.mul_le_mul (by omega) k4.2 k4.1 (by omega)
                    unfold never at k6
                    rw [Int.natCast_add, Int.add_mul]
                    omega
                have hDS := dot_take ts vs
                have HTS := Lib.hid hts
                have HTL := Lib.hid htl
                have HTS' := Lib.hid hts'
                have HVS := Lib.hid hvs
                have HVL := Lib.hid hvl
                have HVB := Lib.hid hvb
                have HDT := Lib.hid hDT
                have HDS := Lib.hid hDS
                have HSV2 := Lib.hid hsv
                have HB4 := Lib.hid hb4
                have HOW4 := Lib.hid hown4
                have hq4 := hb4.block w.heap.size (by have := hBx.out.size; omega)
                have hqb := (hBx.out.block w.heap.size (by omega)).trans HQ1.out
                have HQ4 := Lib.hid (hq4.trans hqb)
                have HD4 := Lib.hid ((hb4.block D lDx).trans hDx.out)
                have HBD4 := Lib.hid (HBDP.out.below hb4 (by have := hBx.out.size; omega))
                have hz4 := hb4.size
                have hzx := hBx.out.size
                have hup3 : 0 ≤ up * 23 ∧ up * 23 ≤ 23 := by omega
                clear hts htl hts' hvs hvl hvb hDT hDS hsv hb4 hown4 hq4 hqb d0 d1
                obtain ⟨u23, hu23⟩ : ∃ u23, up * 23 = u23 := ⟨_, rfl⟩
                rw [hu23] at hup3 ⊢
                have HU23 := Lib.hid hu23
                clear hu23
                go_loopw [19, 20] (fun su vi wr => ∃ j : Nat, j ≤ ln ∧ vi = .int .i64 j ∧ su = .int .i64 (u23 + dot (ts.take j) (vs.take j)) ∧ Hid (Below w4.heap.size w4 wr)) (fun _ vi _ => ln - (intOf vi).toNat)
                case atStart => exact ⟨0, Nat.zero_le _, rfl, by simp [dot], Below.refl _ _⟩
                case round =>
                  obtain ⟨j, hj, rfl, rfl, hbj⟩ := hrel
                  have hzj := hbj.out.size
                  by_cases hjl : j < ln
                  · have hjz : (j : Int) < (ln : Int) := by omega
                    have hjt : j < ts.length := by rw [HTL.out, HLN.out]; exact hjl
                    have hjv : j < vs.length := by rw [HVL.out]; exact hjl
                    have hjb : j < bl.length := by rw [HLN.out]; exact hjl
                    have hds := HDS.out j _ _ (List.getElem?_eq_getElem hjt) (List.getElem?_eq_getElem hjv)
                    have hdt := HDT.out j (by omega)
                    have ht0 := HTS.out.nonneg HOK.out.small (List.getElem?_eq_getElem hjt)
                    have ht1 := (HTS.out.get (List.getElem?_eq_getElem hjb) (List.getElem?_eq_getElem hjt)).2.1
                    have ht2 := (HOK.out.small _ (List.getElem_mem hjb)).2.2
                    have hv1 := HVB.out _ (List.getElem_mem hjv)
                    have hbd := HOK.out.beds _ (List.getElem_mem hjb)
                    have hve : vs[j] = nextV r.out num s (SV d) x bl[j].bed := by
                      have : vs[j]? = some (nextV r.out num s (SV d) x bl[j].bed) := by rw [← HVS.out]; simp [hjb]
                      rw [List.getElem?_eq_getElem hjv] at this
                      simpa using this
                    have hc0 := (HBD4.out.below hbj.out (by omega) j bl[j] (List.getElem?_eq_getElem hjb)).1
                    have htc := HOW4.out.cells rfl j (.int .i64 ts[j]) (by rw [List.getElem?_map, List.getElem?_eq_getElem hjt]; rfl)
                    have hadd : (⟨gt, 0, none⟩ : Addr).add j = ⟨gt, j, none⟩ := by unfold Addr.add; split <;> simp_all
                    rw [hadd] at htc
                    have hgt := (HOW4.out.lt gt rfl).2
                    obtain ⟨tj, htj⟩ : ∃ tj, ts[j] = tj := ⟨_, rfl⟩
                    obtain ⟨vj, hvj⟩ : ∃ vj, vs[j] = vj := ⟨_, rfl⟩
                    obtain ⟨bj, hbj'⟩ : ∃ bj, bl[j].bed = bj := ⟨_, rfl⟩
                    have ht24 : tj ≤ 24 := by rw [← htj]; omega
                    rw [htj] at ht0 hds htc
                    rw [hvj] at hv1 hds hve
                    rw [hbj'] at hbd hc0 hve
                    have hprod : 0 ≤ tj * vj ∧ tj * vj ≤ 48000000000 := by
                      refine ⟨Int.mul_nonneg ht0 hv1.1, ?_⟩
                      have := Int.mul_le_mul ht24 hv1.2 hv1.1 (by omega)
                      unfold never at this
                      omega
                    have haft := fun W (hW : Below w4.heap.size w4 W) => after_any r ba oa ca s x bj bv ov nv cv bd od nd cd num (SV d) vj W HR.out hbd.1 hbd.2 (by omega) hnv hnv1 hnd (by have := hW.size; omega) (by have := hW.size; omega)
                      ((hW.cell (p := ⟨bv, ov + s, none⟩) (by simp only; omega)).trans ((HB4.out.cell (p := ⟨bv, ov + s, none⟩) (by simp only; omega)).trans ((HBP.out.cell (p := ⟨bv, ov + s, none⟩) hbv).trans (HV.out s hnv))))
                      (fun y hy hyx => by
                        obtain ⟨h1, h2⟩ := hdc.out y (by have := HLZ.out; omega) (by omega) (.inl hd)
                        exact ⟨h1, (hW.cell (p := ⟨bd, od + y, none⟩) (by simp only; omega)).trans ((HB4.out.cell (p := ⟨bd, od + y, none⟩) (by simp only; omega)).trans ((hBx.out.cell (p := ⟨bd, od + y, none⟩) (by simp only; omega)).trans ((hbr.out.cell (p := ⟨bd, od + y, none⟩) hbdr).trans h2)))⟩) hve
                    rw [HRV.out] at haft
                    have hS : ∀ W : World, Below wr.heap.size wr W → W.cell? ⟨gt, j, none⟩ = some (.int .i64 tj) ∧ W.cell? ⟨w.heap.size, 0, none⟩ = some (.int .i64 den) ∧ W.cell? ⟨w.heap.size, 1, none⟩ = some (.slice (some ⟨ba, oa, none⟩) r.aims.length ca) ∧ W.cell? ⟨w.heap.size, 2, none⟩ = some (.int .i64 (r.start : Int)) ∧ W.cell? ⟨w.heap.size, 3, none⟩ = some (.int .i64 out) ∧ W.cell? ⟨D, 1, none⟩ = some (.slice (some ⟨bb, ob, none⟩) ln bc) ∧ W.cell? ⟨bb, ob + j * 3, none⟩ = some (.int .i64 bj) := fun W hW => by
                      have h1 := (hW.block w.heap.size (by omega)).trans ((hbj.out.block w.heap.size (by omega)).trans HQ4.out)
                      have h2 := (hW.block D (by omega)).trans ((hbj.out.block D (by omega)).trans HD4.out)
                      refine ⟨(hW.cell (p := ⟨gt, j, none⟩) (by simp only; omega)).trans ((hbj.out.cell (p := ⟨gt, j, none⟩) hgt).trans htc), by simp [World.cell?, h1], by simp [World.cell?, h1], by simp [World.cell?, h1], by simp [World.cell?, h1], by simp [World.cell?, h2], (hW.cell (p := ⟨bb, ob + j * 3, none⟩) (by simp only; omega)).trans hc0⟩
                    have hdr : Below wr.heap.size wr wr.drew := ⟨rfl, rfl, rfl, Nat.le_refl _, fun _ _ => rfl⟩
                    obtain ⟨dj, hdj⟩ : ∃ dj, dot (ts.take j) (vs.take j) = dj := ⟨_, rfl⟩
                    rw [hdj] at hds hdt ⊢
                    have hdjb : 0 ≤ dj ∧ dj ≤ 480000000000 := by omega
                    have hw1 : IntKind.i64.wrap (tj * vj) = tj * vj := IntWalk.i64_in _ (by omega)
                    have hw2 : IntKind.i64.wrap (u23 + dj + tj * vj) = u23 + dj + tj * vj := IntWalk.i64_in _ (by omega)
                    have HAFT := Lib.hid haft
                    have HST := Lib.hid hS
                    have HDR := Lib.hid hdr
                    have HDJ := Lib.hid hds
                    clear haft hS hdr hdj hds hdt ht1 ht2 hc0 htc htj hvj hbj' hve hadd hprod ht24
                    go_wp2_with fail
                    refine wp_region_ord (fun W => W.cell? ⟨gt, j, none⟩ = some (.int .i64 tj) ∧ W.cell? ⟨w.heap.size, 0, none⟩ = some (.int .i64 den) ∧ W.cell? ⟨w.heap.size, 1, none⟩ = some (.slice (some ⟨ba, oa, none⟩) r.aims.length ca) ∧ W.cell? ⟨w.heap.size, 2, none⟩ = some (.int .i64 (r.start : Int)) ∧ W.cell? ⟨w.heap.size, 3, none⟩ = some (.int .i64 out) ∧ W.cell? ⟨D, 1, none⟩ = some (.slice (some ⟨bb, ob, none⟩) ln bc) ∧ W.cell? ⟨bb, ob + j * 3, none⟩ = some (.int .i64 bj)) 20 [(0, 0), (0, 1), (0, 2), (0, 3), (0, 4), (0, 5), (0, 6), (0, 7), (0, 8), (0, 9), (0, 10), (0, 11), (0, 12), (0, 13), (0, 14), (0, 15), (1, 16), (0, 17), (0, 18), (0, 19)] (by kernel_rfl) (by kernel_rfl) (HST.out _ HDR.out) ?_
                    simp only [opsOf, List.map_cons, List.map_nil, List.getElem?_cons_zero, List.getElem?_cons_succ]
                    repeat (refine wpOrd_take (v := ?_) (by rfl) ?_ (fun _ _ _ h => h) ?_; rotate_left; (focus (intro W hSw; (try dsimp only at hSw); go_simp; (try with_reducible rfl))); (try simp only [Act.put, List.setIfInBounds_toArray, List.set_cons_zero, List.set_cons_succ]))
                    refine wpOrd_eff (fun K hK => ?_)
                    go_simp
                    refine (HAFT.out _ (hbj.out.trans (HDR.out.mono hzj))).mono ?_
                    rintro e w5 ⟨rfl, hb5⟩
                    (try go_wp2_with fail)
                    have hb6 : Below wr.heap.size wr w5 := HDR.out.trans hb5
                    refine hK.out _ _ (HST.out _ hb6) ?_
                    clear hK K
                    (try simp only [Act.put, List.setIfInBounds_toArray, List.set_cons_zero, List.set_cons_succ])
                    have HB6 := Lib.hid hb6
                    clear hb5 hb6
                    repeat (refine wpOrd_take (v := ?_) (by rfl) ?_ (fun _ _ _ h => h) ?_; rotate_left; (focus (intro W hSw; (try dsimp only at hSw); go_simp; (try with_reducible rfl))); (try simp only [Act.put, List.setIfInBounds_toArray, List.set_cons_zero, List.set_cons_succ]))
                    refine wpOrd_done ?_
                    clear hw1 hw2
                    go_wp2
                    go_roundw
                    case rel => exact ⟨j + 1, hjl, by go_num, by rw [HDJ.out]; exact congrArg (Value.int .i64) (by omega), hbj.out.trans (HB6.out.mono hzj)⟩
                    case measure => simp [intOf]; omega
                  · have hjl' : j = ln := by omega
                    have hjn : ¬ (j : Int) < (ln : Int) := by omega
                    have hdt := HDT.out j hj
                    have hfin : dot (ts.take j) (vs.take j) = dot ts vs := by
                      rw [hjl', List.take_of_length_le (by rw [HTL.out, HLN.out]; omega), List.take_of_length_le (by rw [HVL.out]; omega)]
                    rw [hfin] at hdt ⊢
                    obtain ⟨dt, hdt'⟩ : ∃ dt, dot ts vs = dt := ⟨_, rfl⟩
                    have hsv := HSV2.out
                    rw [hdt', HU23.out] at hsv
                    rw [hdt'] at hdt ⊢
                    have hdb : 0 ≤ dt ∧ dt ≤ 480000000000 := by omega
                    have HSV3 := Lib.hid hsv
                    clear hdt hfin hdt' hsv hjl hjl'
                    have hbqr : Below wq.heap.size wq wr := (hBx.out.trans (HB4.out.mono hzx)).trans (hbj.out.mono (by omega))
                    have hown : wr.ownsRow wo.heap.size 3 1 (.slice (some ⟨wo.heap.size, 0, none⟩) s1 s1) s1 (ys.map (Value.int .i64)) := owns_same hyo.out fun g hg => hbqr.block g (by simp [Value.ownBlock] at hg; omega)
                    have hxl : x < ys.length := by rw [hyl.out]; omega
                    have hcx : wr.cell? ⟨wo.heap.size, x, none⟩ = some (.int .i64 (getI ys x)) := by
                      have := hown.cells rfl x (.int .i64 (getI ys x)) (by rw [List.getElem?_map]; simp [getI, hxl])
                      have hadd : (⟨wo.heap.size, 0, none⟩ : Addr).add x = ⟨wo.heap.size, x, none⟩ := by unfold Addr.add; split <;> simp_all
                      rwa [hadd] at this
                    have hfx : wr.frozen? ⟨wo.heap.size, x, none⟩ = false := World.ownsRow.frozenAt hown x
                    have hst := (World.ownsRow.stored (w := wr) hown x (.int .i64 (SV (d + 1) x))).1
                    have hxs1 : (x : Int) < (s1 : Int) := by omega
                    have HST := Lib.hid hst
                    have HBQ := Lib.hid hbqr
                    clear hst hown hbqr
                    go_wp2
                    go_roundw
                    case rel =>
                      rw [HSV3.out] at HST
                      refine ⟨x + 1, ys.set x ((u23 + dt) / 24), by go_num, by omega, by omega, (by rw [List.length_set]; exact hyl.out : (ys.set x ((u23 + dt) / 24)).length = s1), ?_, (fun y h1 h2 h3 => ?_ : ∀ y : Nat, lo ≤ y → y < x + 1 → (d + 1 < 3 ∨ y = s) → getI (ys.set x ((u23 + dt) / 24)) y = SV (d + 1) y), ?_, by simp [World.setCell]; have := HBQ.out.size; omega⟩
                      · show World.ownsRow _ _ _ _ _ _ _
                        rw [List.map_set]
                        exact HST.out
                      · rw [getI_set _ _ _ _ hxl]
                        by_cases hyx : y = x
                        · rw [if_pos hyx, hyx, HSV3.out]
                        · rw [if_neg hyx]
                          exact hyv.out y h1 (by omega) h3
                      · exact hbr.out.trans ((HBQ.out.mono (by omega)).trans ((Below.refl _ _).setCell (p := ⟨wo.heap.size, x, none⟩) (Nat.le_refl _) _))
                    case measure => simp [intOf]; omega
        · have hxe : x = s1 := by have := HSS.out; omega
          have hxn : ¬ (x : Int) ≤ (s : Int) := by omega
          have HXE := Lib.hid hxe
          clear hxe
          go_wp2
          go_roundw
          case rel =>
            refine ⟨d + 1, wo.heap.size, 0, s1, s1, by omega, by go_num, rfl, hBr.out.trans (hbr.out.mono (by omega)), (hbr.out.block _ zr).trans hq0.out, hzr, by omega, (fun y h1 h2 h3 => ⟨by omega, ?_⟩ : ∀ y : Nat, lo ≤ y → y ≤ s → (d + 1 < 3 ∨ y = s) → y < s1 ∧ wr.cell? ⟨wo.heap.size, 0 + y, none⟩ = some (.int .i64 (SV (d + 1) y))), by omega⟩
            have hyl2 : y < ys.length := by rw [hyl.out]; omega
            have h4 := hyv.out y h1 (by have := HXE.out; omega) h3
            rw [Nat.zero_add, ← h4]
            have := hyo.out.cells rfl y (.int .i64 (getI ys y)) (by rw [List.getElem?_map]; simp [getI, hyl2])
            have hadd : (⟨wo.heap.size, 0, none⟩ : Addr).add y = ⟨wo.heap.size, y, none⟩ := by unfold Addr.add; split <;> simp_all
            rwa [hadd] at this
          case measure => simp [intOf]; omega
    · obtain rfl : d = 3 := by omega
      obtain ⟨h1, h2⟩ := hdc.out s hlo2 (Nat.le_refl _) (.inr rfl)
      have hsv := HSB.out 3 s (by rw [HLZ.out]; omega) (Int.le_refl _)
      unfold never at hsv
      obtain ⟨sv, hsv'⟩ : ∃ sv, SV 3 s = sv := ⟨_, rfl⟩
      rw [hsv'] at h2 hsv
      have HS3 := Lib.hid hsv'
      clear hsv'
      go_wp2
      go_ret
      exact ⟨by rw [HS3.out]; rfl, hBr.out⟩

end Go.Proofs.Ytnaehbgmfajdjaa
