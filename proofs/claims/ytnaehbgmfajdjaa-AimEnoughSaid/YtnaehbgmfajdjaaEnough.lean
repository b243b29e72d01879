/- AimEnough of the statements' package: whoever aims as Aim says needs no more visits, in expectation, than the upper number. -/
import Derived.Test.YtnaehbgmfajdjaaRul
import Derived.Test.YtnaehbgmfajdjaaOwn
import Derived.Test.YtnaehbgmfajdjaaVis
import Derived.Test.YtnaehbgmfajdjaaKnown
import Derived.Test.YtnaehbgmfajdjaaEnoughP
namespace Go.Proofs.Ytnaehbgmfajdjaa
open Go.RowKit AimP

set_option maxRecDepth 100000 in
set_option maxHeartbeats 4000000 in
theorem enough_walk (pw : Option Addr) (nw cw : Nat) (pl : Option Addr) (nl cl : Nat) (pm : Option Addr) (nm cm : Nat) (st ou : Nat) (pb : Option Addr) (nb cb : Nat) (fw fl fm fb : Nat → Nat) (w : World)
    (hw : ListAt w .u16 pw nw fw) (hl : ListAt w .u8 pl nl fl) (hm : ListAt w .u8 pm nm fm) (hb : ListAt w .u8 pb nb fb) (hfw : ∀ j, fw j < 65536) (hfl : ∀ j, fl j < 256) (hfm : ∀ j, fm j < 256) (hfb : ∀ j, fb j < 256) (hst : st < 256) (hou : ou < 256) :
    Calls Try.prog 3 #[inV pw nw cw pl nl cl pm nm cm st ou, .slice pb nb cb] w fun e w' => e = .returned (.bool true) ∧ Below w.heap.size w w' := by
  have hrul := fun (W : World) (hW : Below w.heap.size w W) => rules_any pw nw cw pl nl cl pm nm cm st ou 2 fw fl fm W (hw.below hW) (hl.below hW) (hm.below hW) hfw hfl hfm hst hou (by omega) (by omega)
  have hknown := fun W => known_any W
  unfold inV at hrul ⊢
  obtain ⟨inf, hi, hz0, hz1, hz2⟩ := info_parts infoInt
  have HRUL := Lib.hid hrul
  have HKN := Lib.hid hknown
  have HBY := Lib.hid hb
  have HFB := Lib.hid hfb
  have HI := Lib.hid hi
  have HZ0 := Lib.hid hz0
  have HZ1 := Lib.hid hz1
  have HZ2 := Lib.hid hz2
  clear hrul hknown hb hw hl hm hfw hfl hfm hfb hi hz0 hz1 hz2
  go_enter Try.func3, Try.ntmps3
  go_wp2_with fail
  obtain ⟨w1, hw1⟩ : ∃ w1, w.alloc (Obj.cells #[.slice pw nw cw, .slice pl nl cl, .slice pm nm cm, .int .u8 st, .int .u8 ou] 25) = w1 := ⟨_, rfl⟩
  have hb1 : Below w.heap.size w w1 := by rw [← hw1]; exact (Below.refl _ _).alloc (Nat.le_refl _) _
  have hz1 : w1.heap.size = w.heap.size + 1 := by rw [← hw1]; simp
  have hz1' : w.heap.size + 1 ≤ w1.heap.size := Nat.le_of_eq hz1.symm
  rw [hw1]
  refine (HRUL.out w1 hb1).mono ?_
  rintro e w2 ⟨R0, L, b, c, rfl, hden0, hrok0, hful0, hlen3, hstart, hb2, hO2, hLm⟩
  obtain ⟨R, hRd, hRa, hRo, hRs⟩ : ∃ R : Rules, R.den = R0.den ∧ R.aims = R0.aims ∧ R.out = R0.out ∧ R.start = min R0.start 4 := ⟨⟨R0.den, R0.aims, min R0.start 4, R0.out⟩, rfl, rfl, rfl, rfl⟩
  have hrok : RulesOk R := ⟨by rw [hRd]; exact hrok0.den1, by rw [hRd]; exact hrok0.den, by rw [hRa]; exact hrok0.len1, by rw [hRa]; exact hrok0.len, by rw [hRa, hRd]; exact hrok0.aims, by have := hrok0.start2; omega, by omega, by rw [hRo]; exact hrok0.out0, by rw [hRo]; exact hrok0.out⟩
  have hden : R.den = 24 := hRd.trans hden0
  have hful : LawFull 24 R.aims := by rw [hRa]; exact hful0
  have hA2 : AimsAt w2.heap.size w2 b 0 R.aims := by have := hO2.aimsAt; rwa [hLm, ← hRa] at this
  have hst4 : 2 ≤ R.start ∧ R.start ≤ 4 := by omega
  have hminz : min (R0.start : Int) 4 = (R.start : Int) := by omega
  have hs6 : R0.start ≤ 6 := by omega
  have hb12 := hb1.trans (hb2.mono (by omega))
  have HDEN := Lib.hid hden
  have HROK := Lib.hid hrok
  have HFUL := Lib.hid hful
  have HA2 := Lib.hid hA2
  have HB12 := Lib.hid hb12
  have hz2 := hb2.size
  have hr3 := hrok.out
  have hr0 := hrok.out0
  have HMZ := Lib.hid hminz
  unfold rulesV
  rw [← hRd, ← hRa, ← hRo]
  clear hw1 hb1 hden hrok hful hO2 hLm hA2 hb2 hb12 hstart hRd hRa hRo hRs hrok0 hden0 hful0 hlen3 hminz
  go_wp2_with fail
  rw [HMZ.out]
  obtain ⟨w3, hw3⟩ : ∃ w3, w2.alloc (Obj.cells #[.int .i64 R.den, .slice (some ⟨b, 0, none⟩) R.aims.length c, .int .i64 (R.start : Int), .int .i64 R.out] 31) = w3 := ⟨_, rfl⟩
  have hb3 : Below w2.heap.size w2 w3 := by rw [← hw3]; exact (Below.refl _ _).alloc (Nat.le_refl _) _
  have hz3 : w3.heap.size = w2.heap.size + 1 := by rw [← hw3]; simp
  have hr3h : w3.heap[w2.heap.size]? = some (.cells #[.int .i64 R.den, .slice (some ⟨b, 0, none⟩) R.aims.length c, .int .i64 (R.start : Int), .int .i64 R.out] 31 (0, 0)) := by rw [← hw3]; exact World.alloc_heap_new _ _
  have hA3 : AimsAt w3.heap.size w3 b 0 R.aims := (HA2.out.below hb3).mono hb3.size
  rw [hw3]
  refine (own_any R b 0 c w3 HROK.out hA3).mono ?_
  rintro e w4 ⟨L4, b4, c4, rfl, hb4, hO4, hL4⟩
  have hA4 : AimsAt w4.heap.size w4 b4 0 R.aims := by have := hO4.aimsAt; rwa [hL4] at this
  clear HMZ hs6
  go_wp2_with fail
  refine (table_told R b4 c4 w4 HROK.out (by rw [HDEN.out]; exact HFUL.out) hA4 _ _ (R.start + 1) rfl rfl rfl).mono ?_
  rintro e w5 ⟨bu, bl, rfl, hb5, zu, zl, cu, cl'⟩
  have hb35 := hb4.trans (hb5.mono hb4.size)
  have hz35 := hb35.size
  have hr5 := (hb35.block w2.heap.size (by omega)).trans hr3h
  have HR5 := Lib.hid hr5
  have HA5 := Lib.hid ((hA3.below hb35).mono hb35.size)
  have HB05 := Lib.hid (HB12.out.trans ((hb3.trans (hb35.mono (by omega))).mono (by have := HB12.out.size; omega)))
  have HCU := Lib.hid cu
  have x1 : w5.cell? ⟨w2.heap.size, 1, none⟩ = some (.slice (some ⟨b, 0, none⟩) R.aims.length c) := by simp [World.cell?, hr5]
  have x2 : w5.cell? ⟨w2.heap.size, 2, none⟩ = some (.int .i64 (R.start : Int)) := by simp [World.cell?, hr5]
  have x3 : w5.cell? ⟨w2.heap.size, 3, none⟩ = some (.int .i64 R.out) := by simp [World.cell?, hr5]
  clear hw3 hb3 hr3h hA3 hb4 hO4 hL4 hA4 hb5 hb35 cu cl' zl hz1 hr5
  have hn7 : R.start + 1 ≤ 5 := by omega
  obtain ⟨n1, hn1⟩ : ∃ n1, R.start + 1 = n1 := ⟨_, rfl⟩
  have HN1 := Lib.hid hn1
  have hn1z : (R.start : Int) + 1 = (n1 : Int) := by omega
  have hne1 : ((n1 : Int) != (n1 : Int)) = false := by simp
  rw [hn1] at hn7 HCU
  have hn3 : 3 ≤ n1 := by omega
  rw [hn1]
  have hlo := lowest_bd R.out
  have hlc := fun W => lowestL_any R.out (lowest R.out) W rfl
  obtain ⟨lo, hlo'⟩ : ∃ lo : Nat, (lowest R.out).toNat = lo := ⟨_, rfl⟩
  have hloz : lowest R.out = (lo : Int) := by omega
  rw [hloz] at hlc hlo
  have HLC := Lib.hid hlc
  have HLZ := Lib.hid hloz
  clear hlc hloz hlo' hn1
  go_wp2_with (go_at_call 15; refine (HLC.out _).mono ?_; rintro e w' ⟨rfl, rfl⟩)
  rw [store_same _ _ _ _ _ rfl (by rw [zeros40]; intro v hv; simp at hv; rw [hv]; rfl)]
  have hh6 := held_new w5
  have hb56 : Below w5.heap.size w5 (w5.alloc (.cells Try.zeroCells40 40)) := (Below.refl _ _).alloc (Nat.le_refl _) _
  have hz6 : (w5.alloc (.cells Try.zeroCells40 40)).heap.size = w5.heap.size + 1 := by simp
  obtain ⟨w6, hw6⟩ : ∃ w6, w5.alloc (.cells Try.zeroCells40 40) = w6 := ⟨_, rfl⟩
  rw [hw6] at hh6 hb56 hz6 ⊢
  have HH6 := Lib.hid hh6
  have HB56 := Lib.hid hb56
  have y1 := (hb56.cell (p := ⟨w2.heap.size, 1, none⟩) (by simp only; omega)).trans x1
  have y2 := (hb56.cell (p := ⟨w2.heap.size, 2, none⟩) (by simp only; omega)).trans x2
  have y3 := (hb56.cell (p := ⟨w2.heap.size, 3, none⟩) (by simp only; omega)).trans x3
  clear hw6 hh6 hb56 x1 x2 x3
  go_wp2_with (go_at_call 15; refine (HLC.out _).mono ?_; rintro e w' ⟨rfl, rfl⟩)
  go_loopw [10] (fun sv wr => ∃ (s : Nat) (lst : Nat → Nat → Nat → Nat), sv = .int .i64 s ∧ lo ≤ s ∧ s ≤ n1 ∧ Hid (Held wr w5.heap.size lst) ∧ Hid (∀ s d x, lst s d x < R.aims.length) ∧ Hid (DoneTo R lst s 0 0) ∧ Hid (Below w5.heap.size w5 wr)) (fun sv _ => n1 + 1 - (intOf sv).toNat)
  case atStart =>
    exact ⟨lo, fun _ _ _ => 0, rfl, Nat.le_refl _, by omega, HH6.out, (fun _ _ _ => HROK.out.len1 : ∀ _ _ _, 0 < R.aims.length), (fun s' d' x' hp h' => absurd hp.s0 (by have := HLZ.out; omega) : DoneTo R (fun _ _ _ => 0) lo 0 0), HB56.out⟩
  case round =>
    obtain ⟨s, lst0, rfl, hls, hs1, hheld0, hllt0, hdone0, hbr⟩ := hrel
    clear HH6 HB56 y1 y2 y3 hz6 hne1
    have hrr := (hbr.out.block w2.heap.size (by omega)).trans HR5.out
    have x1 : wr.cell? ⟨w2.heap.size, 1, none⟩ = some (.slice (some ⟨b, 0, none⟩) R.aims.length c) := by simp [World.cell?, hrr]
    have x2 : wr.cell? ⟨w2.heap.size, 2, none⟩ = some (.int .i64 (R.start : Int)) := by simp [World.cell?, hrr]
    clear hrr
    by_cases hss : s ≤ R.start
    · have hssz : (s : Int) ≤ (R.start : Int) := by omega
      go_wp2_with fail
      clear x1 x2
      go_loopw [11] (fun dv wr => ∃ (d : Nat) (lst : Nat → Nat → Nat → Nat), dv = .int .i64 d ∧ 1 ≤ d ∧ d ≤ 4 ∧ Hid (Held wr w5.heap.size lst) ∧ Hid (∀ s d x, lst s d x < R.aims.length) ∧ Hid (DoneTo R lst s d 0) ∧ Hid (Below w5.heap.size w5 wr)) (fun dv _ => 5 - (intOf dv).toNat)
      case atStart =>
        exact ⟨1, lst0, rfl, by omega, by omega, hheld0, hllt0, (hdone0.out.mono (fun s' d' x' hp h' => by have := hp.d0; omega) : DoneTo R lst0 s 1 0), hbr⟩
      case round =>
        obtain ⟨d, lst1, rfl, hd1, hd4, hheld1, hllt1, hdone1, hbr2⟩ := hrel
        clear hheld0 hllt0 hdone0 hbr
        have hrr := (hbr2.out.block w2.heap.size (by omega)).trans HR5.out
        have x3 : wr.cell? ⟨w2.heap.size, 3, none⟩ = some (.int .i64 R.out) := by simp [World.cell?, hrr]
        clear hrr
        by_cases hd3 : d ≤ 3
        · have hd3z : (d : Int) ≤ 3 := by omega
          go_wp2_with (go_at_call 15; refine (HLC.out _).mono ?_; rintro e w' ⟨rfl, rfl⟩)
          clear x3
          go_loopw [12] (fun xv wr => ∃ (x : Nat) (lst : Nat → Nat → Nat → Nat), xv = .int .i64 x ∧ lo ≤ x ∧ x ≤ s + 1 ∧ Hid (Held wr w5.heap.size lst) ∧ Hid (∀ s d x, lst s d x < R.aims.length) ∧ Hid (DoneTo R lst s d x) ∧ Hid (Below w5.heap.size w5 wr)) (fun xv _ => 6 - (intOf xv).toNat)
          case atStart =>
            exact ⟨lo, lst1, rfl, Nat.le_refl _, by omega, hheld1, hllt1, (hdone1.out.mono (fun s' d' x' hp h' => by have := hp.l0; have := HLZ.out; omega) : DoneTo R lst1 s d lo), hbr2⟩
          case round =>
            obtain ⟨x, lst, rfl, hlx, hx1, hheld, hllt, hdone, hbr3⟩ := hrel
            clear hheld1 hllt1 hdone1 hbr2
            have hrr := (hbr3.out.block w2.heap.size (by omega)).trans HR5.out
            have hz53 := hbr3.out.size
            have hzl3 := hheld.out.lt
            by_cases hxs : x ≤ s
            · have hxsz : (x : Int) ≤ (s : Int) := by omega
              by_cases hsk : d = 3 ∧ x < s
              · obtain ⟨rfl, hxl⟩ := hsk
                have hxlz : (x : Int) < (s : Int) := by omega
                clear hrr
                go_wp2
                go_roundw
                case rel => exact ⟨x + 1, lst, by go_num, by omega, by omega, hheld, hllt, (hdone.out.mono (fun s' d' x' hp h' => by have := hp.full; have := hp.l1; omega) : DoneTo R lst s 3 (x + 1)), hbr3⟩
                case measure => simp [intOf]; omega
              · have x0 : wr.cell? ⟨w2.heap.size, 0, none⟩ = some (.int .i64 R.den) := by simp [World.cell?, hrr]
                have x1 : wr.cell? ⟨w2.heap.size, 1, none⟩ = some (.slice (some ⟨b, 0, none⟩) R.aims.length c) := by simp [World.cell?, hrr]
                have x2 : wr.cell? ⟨w2.heap.size, 2, none⟩ = some (.int .i64 (R.start : Int)) := by simp [World.cell?, hrr]
                have x3 : wr.cell? ⟨w2.heap.size, 3, none⟩ = some (.int .i64 R.out) := by simp [World.cell?, hrr]
                have hpos : PosOk R s x d := ⟨by have := HLZ.out; omega, hss, by have := HLZ.out; omega, hxs, hd1, hd3, by omega⟩
                have hAr : AimsAt wr.heap.size wr b 0 R.aims := (HA5.out.below hbr3.out).mono hz53
                have hown := own_any R b 0 c wr HROK.out hAr
                have haimc := fun (b4 c4 : Nat) (W : World) (hA : AimsAt W.heap.size W b4 0 R.aims) => aimL_any R b4 c4 s x d lst W HROK.out (by rw [HDEN.out]; exact HFUL.out) hA hpos
                have HAIM := Lib.hid haimc
                have HOWN := Lib.hid hown
                unfold rulesV at HOWN
                have hnz : ¬ ((d : Int) = 3 ∧ (x : Int) < (s : Int)) := by omega
                clear haimc hown hAr hrr hpos
                by_cases hd3e : d = 3
                · have hd3b : ((d : Int) == 3) = true := by simp; omega
                  have hxg : ¬ (x : Int) < (s : Int) := by omega
                  clear hd3e hnz hsk
                  go_wp2_with fail
                  refine HOWN.out.mono ?_
                  rintro e w8 ⟨L4, b8, c8, rfl, hb8, hO8, hL8⟩
                  have hA8 : AimsAt w8.heap.size w8 b8 0 R.aims := by have := hO8.aimsAt; rwa [hL8] at this
                  go_wp2_with fail
                  refine (HAIM.out b8 c8 w8 hA8).mono ?_
                  rintro e w9 ⟨j, m, ev, rfl, hev, hjn, hgood, hb9⟩
                  have hb9o := hb8.trans (hb9.mono hb8.size)
                  have y1 := (hb9o.cell (p := ⟨w2.heap.size, 1, none⟩) (by simp only; omega)).trans x1
                  have hj1 : ¬ (j : Int) < 0 := by omega
                  have hj2 : ¬ (R.aims.length : Int) ≤ (j : Int) := by omega
                  clear hb8 hO8 hL8 hA8 hb9 x0 x1 x2 x3 HAIM HOWN
                  rcases hev with rfl | ⟨rfl, hj0⟩
                  · have hA9 := hheld.out.same (hb9o.block w5.heap.size hzl3)
                    have hcx := hA9.cell (s := s) (d := d) (x := x) (by omega) (by omega) (by omega)
                    have hfx := hA9.free (s * 20 + d * 5 + x)
                    have HST := Lib.hid (hA9.set (s := s) (d := d) (x := x) (v := j) (by omega) (by omega) (by omega))
                    have HGD := Lib.hid hgood
                    have HB9 := Lib.hid (hbr3.out.trans (hb9o.mono hz53))
                    have hz9 := hb9o.size
                    clear hA9 hgood hb9o
                    go_wp2
                    go_roundw
                    case rel =>
                      refine ⟨x + 1, setL lst s d x j, by go_num, by omega, by omega, HST.out, setL_lt hllt.out hjn, hdone.out.set HGD.out, HB9.out.trans (((Below.refl _ w9).setCell (p := ⟨w5.heap.size, s * 20 + d * 5 + x, none⟩) (Nat.le_refl _) _))⟩
                    case measure => simp [intOf]; omega
                  · have hjb : ((j : Int) != 0) = false := by simp; omega
                    clear hj0
                    have hA9 := hheld.out.same (hb9o.block w5.heap.size hzl3)
                    have hcx := hA9.cell (s := s) (d := d) (x := x) (by omega) (by omega) (by omega)
                    have hfx := hA9.free (s * 20 + d * 5 + x)
                    have HST := Lib.hid (hA9.set (s := s) (d := d) (x := x) (v := j) (by omega) (by omega) (by omega))
                    have HGD := Lib.hid hgood
                    have HB9 := Lib.hid (hbr3.out.trans (hb9o.mono hz53))
                    have hz9 := hb9o.size
                    clear hA9 hgood hb9o
                    go_wp2
                    go_roundw
                    case rel =>
                      refine ⟨x + 1, setL lst s d x j, by go_num, by omega, by omega, HST.out, setL_lt hllt.out hjn, hdone.out.set HGD.out, HB9.out.trans (((Below.refl _ w9).setCell (p := ⟨w5.heap.size, s * 20 + d * 5 + x, none⟩) (Nat.le_refl _) _))⟩
                    case measure => simp [intOf]; omega
                · have hdn : ¬ (d : Int) = 3 := by omega
                  go_wp2_with fail
                  refine HOWN.out.mono ?_
                  rintro e w8 ⟨L4, b8, c8, rfl, hb8, hO8, hL8⟩
                  have hA8 : AimsAt w8.heap.size w8 b8 0 R.aims := by have := hO8.aimsAt; rwa [hL8] at this
                  go_wp2_with fail
                  refine (HAIM.out b8 c8 w8 hA8).mono ?_
                  rintro e w9 ⟨j, m, ev, rfl, hev, hjn, hgood, hb9⟩
                  have hb9o := hb8.trans (hb9.mono hb8.size)
                  have y1 := (hb9o.cell (p := ⟨w2.heap.size, 1, none⟩) (by simp only; omega)).trans x1
                  have hj1 : ¬ (j : Int) < 0 := by omega
                  have hj2 : ¬ (R.aims.length : Int) ≤ (j : Int) := by omega
                  clear hb8 hO8 hL8 hA8 hb9 x0 x1 x2 x3 HAIM HOWN
                  rcases hev with rfl | ⟨rfl, hj0⟩
                  · have hA9 := hheld.out.same (hb9o.block w5.heap.size hzl3)
                    have hcx := hA9.cell (s := s) (d := d) (x := x) (by omega) (by omega) (by omega)
                    have hfx := hA9.free (s * 20 + d * 5 + x)
                    have HST := Lib.hid (hA9.set (s := s) (d := d) (x := x) (v := j) (by omega) (by omega) (by omega))
                    have HGD := Lib.hid hgood
                    have HB9 := Lib.hid (hbr3.out.trans (hb9o.mono hz53))
                    have hz9 := hb9o.size
                    clear hA9 hgood hb9o
                    go_wp2
                    go_roundw
                    case rel =>
                      refine ⟨x + 1, setL lst s d x j, by go_num, by omega, by omega, HST.out, setL_lt hllt.out hjn, hdone.out.set HGD.out, HB9.out.trans (((Below.refl _ w9).setCell (p := ⟨w5.heap.size, s * 20 + d * 5 + x, none⟩) (Nat.le_refl _) _))⟩
                    case measure => simp [intOf]; omega
                  · have hjb : ((j : Int) != 0) = false := by simp; omega
                    clear hj0
                    have hA9 := hheld.out.same (hb9o.block w5.heap.size hzl3)
                    have hcx := hA9.cell (s := s) (d := d) (x := x) (by omega) (by omega) (by omega)
                    have hfx := hA9.free (s * 20 + d * 5 + x)
                    have HST := Lib.hid (hA9.set (s := s) (d := d) (x := x) (v := j) (by omega) (by omega) (by omega))
                    have HGD := Lib.hid hgood
                    have HB9 := Lib.hid (hbr3.out.trans (hb9o.mono hz53))
                    have hz9 := hb9o.size
                    clear hA9 hgood hb9o
                    go_wp2
                    go_roundw
                    case rel =>
                      refine ⟨x + 1, setL lst s d x j, by go_num, by omega, by omega, HST.out, setL_lt hllt.out hjn, hdone.out.set HGD.out, HB9.out.trans (((Below.refl _ w9).setCell (p := ⟨w5.heap.size, s * 20 + d * 5 + x, none⟩) (Nat.le_refl _) _))⟩
                    case measure => simp [intOf]; omega
            · have hxn : ¬ (x : Int) ≤ (s : Int) := by omega
              clear hrr
              go_wp2
              go_roundw
              case rel => exact ⟨d + 1, lst, by go_num, by omega, by omega, hheld, hllt, (hdone.out.mono (fun s' d' x' hp h' => by have := hp.l1; omega) : DoneTo R lst s (d + 1) 0), hbr3⟩
              case measure => simp [intOf]; omega
        · have hdn : ¬ (d : Int) ≤ 3 := by omega
          clear x3
          go_wp2
          go_roundw
          case rel => exact ⟨s + 1, lst1, by go_num, by omega, by have := HN1.out; omega, hheld1, hllt1, (hdone1.out.mono (fun s' d' x' hp h' => by have := hp.d1; omega) : DoneTo R lst1 (s + 1) 0 0), hbr2⟩
          case measure => simp [intOf]; omega
    · have hsn : s = n1 := by have := HN1.out; omega
      have hsnz : ¬ (s : Int) ≤ (R.start : Int) := by omega
      have HDN := Lib.hid (show DoneTo R lst0 n1 0 0 by rw [← hsn]; exact hdone0.out)
      have hlt0 := hheld0.out.lt
      have huspec := fun (x : Nat) (h1 : lowest R.out ≤ x) (h2 : x ≤ R.start) => upper_spec HROK.out (s := x) h1 h2
      have HUS := Lib.hid huspec
      clear hsn hdone0 huspec x1
      obtain ⟨wo, rfl⟩ : ∃ wo : World, wo = wr := ⟨_, rfl⟩
      have hzo := hbr.out.size
      go_wp2_with (at_make; refine wpList_make_full _ rfl _ _ 33 rfl wo.heap.size 3 inf (.int .i64 0) 1 Try.underlying33 HI.out HZ0.out HZ1.out .i64 .i64 _ _ n1 rfl rfl rfl rfl (by rw [HZ2.out]; omega) (by unfold maxLen; omega) (by omega) ?_)
      intro w8 hown8 hgrow8
      have hz8 := hgrow8.size
      have hb8 : Below wo.heap.size wo w8 := grown_below hgrow8 (Nat.le_refl _) (fun k hk => by simp at hk)
      have hown8' : w8.ownsRow wo.heap.size 3 1 (.slice (some ⟨wo.heap.size, 0, none⟩) n1 n1) n1 ((List.replicate n1 (0 : Int)).map (Value.int .i64)) := by
        rw [List.map_replicate, ← toList_madeCells_one]
        exact hown8
      have hc8 : ∀ x : Nat, x < n1 → w8.cell? ⟨wo.heap.size, 0 + x, none⟩ = some (.int .i64 (numOf (List.replicate n1 0) x)) := fun x hx => by
        have := hown8'.cells rfl x (.int .i64 (numOf (List.replicate n1 0) x)) (by rw [List.getElem?_map]; simp [numOf, hx])
        have hadd : (⟨wo.heap.size, 0, none⟩ : Addr).add x = ⟨wo.heap.size, 0 + x, none⟩ := by unfold Addr.add; split <;> simp_all
        rwa [hadd] at this
      have hlt8 := (hown8'.lt _ rfl).2
      have HC8 := Lib.hid hc8
      have HB8 := Lib.hid hb8
      have hzz : ∀ x : Int, numOf (List.replicate n1 0) x = 0 := fun x => by
        unfold numOf
        cases h : (List.replicate n1 (0 : Int))[x.toNat]? with
        | none => rfl
        | some v => rw [Option.getD_some]; exact List.eq_of_mem_replicate (List.mem_of_getElem? h)
      clear hown8 hgrow8 hb8 hown8' hc8 x2
      go_wp2_with fail
      go_loopw [16, 17] (fun nv kv wr => ∃ (kk g : Nat) (nums : List Int), nv = .slice (some ⟨g, 0, none⟩) n1 n1 ∧ kv = .int .i64 kk ∧ kk ≤ 3 ∧ g < wr.heap.size ∧ wo.heap.size ≤ g ∧ Hid (∀ x : Nat, x < n1 → wr.cell? ⟨g, 0 + x, none⟩ = some (.int .i64 (numOf nums x))) ∧ Hid (NumOk nums) ∧
        Hid (∀ x : Int, lowest R.out ≤ x → x ≤ R.start → 0 ≤ numOf nums x ∧ numOf nums x ≤ numOf (table R false) x) ∧ Hid (∀ x : Int, numOf nums x ≤ (kk : Int) * whole) ∧ Hid (Below wo.heap.size wo wr)) (fun _ kv _ => 3 - (intOf kv).toNat)
      case atStart =>
        refine ⟨0, wo.heap.size, List.replicate n1 0, rfl, rfl, by omega, hlt8, Nat.le_refl _, HC8.out, (fun v hv => by rw [List.eq_of_mem_replicate hv]; unfold never; omega : NumOk (List.replicate n1 0)), (fun x h1 h2 => ?_ : ∀ x : Int, lowest R.out ≤ x → x ≤ R.start → 0 ≤ numOf (List.replicate n1 0) x ∧ numOf (List.replicate n1 0) x ≤ numOf (table R false) x), (fun x => by rw [hzz]; simp : ∀ x : Int, numOf (List.replicate n1 0) x ≤ ((0 : Nat) : Int) * whole), HB8.out⟩
        rw [hzz]
        obtain ⟨x, rfl⟩ : ∃ m : Nat, x = m := ⟨x.toNat, by have := HLZ.out; omega⟩
        have := (HUS.out x h1 (by omega)).1
        unfold whole at this
        omega
      case round =>
        obtain ⟨kk, g, nums, rfl, rfl, hk3, hgz, hgo, hcl, hno, hup, hbd, hbr2⟩ := hrel
        clear HC8 HB8 hzz hlt8 hz8
        by_cases hk : kk < 3
        · have hkz : (kk : Int) < 3 := by omega
          obtain ⟨wv, rfl⟩ : ∃ wv : World, wv = wr := ⟨_, rfl⟩
          have hzv := hbr2.out.size
          have hrr := (hbr2.out.block w2.heap.size (by omega)).trans ((hbr.out.block w2.heap.size (by omega)).trans HR5.out)
          have HR2 := Lib.hid hrr
          have x2 : wv.cell? ⟨w2.heap.size, 2, none⟩ = some (.int .i64 (R.start : Int)) := by simp [World.cell?, hrr]
          clear hrr
          go_wp2_with (at_make; refine wpList_make_full _ rfl _ _ 33 rfl wv.heap.size 3 inf (.int .i64 0) 1 Try.underlying33 HI.out HZ0.out HZ1.out .i64 .i64 _ _ n1 rfl rfl rfl rfl (by rw [HZ2.out]; omega) (by unfold maxLen; omega) (by omega) ?_)
          intro w8 hown hgrow
          have hz8 := hgrow.size
          have hb8 : Below wv.heap.size wv w8 := grown_below hgrow (Nat.le_refl _) (fun k hk => by simp at hk)
          have hlt8 := (hown.lt _ rfl).2
          have y3 : w8.cell? ⟨w2.heap.size, 3, none⟩ = some (.int .i64 R.out) := by
            have := (hb8.block w2.heap.size (by omega)).trans HR2.out
            simp [World.cell?, this]
          have HOWN := Lib.hid hown
          have HB8 := Lib.hid hb8
          clear hown hgrow hb8 x2
          go_wp2_with (go_at_call 15; refine (HLC.out _).mono ?_; rintro e w' ⟨rfl, rfl⟩)
          go_loopw [19] (fun sv wr => ∃ (x SB : Nat) (ys : List Int), sv = .pointer (some ⟨SB, 0, none⟩) ∧ Hid (wr.heap[SB]? = some (.cells #[.int .i64 x] 3 (0, 0))) ∧ wv.heap.size < SB ∧ lo ≤ x ∧ x ≤ n1 ∧ Hid (ys.length = n1) ∧ Hid (wr.ownsRow wv.heap.size 3 1 (.slice (some ⟨wv.heap.size, 0, none⟩) n1 n1) n1 (ys.map (Value.int .i64))) ∧ Hid (∀ y ∈ ys, 0 ≤ y ∧ y ≤ ((kk + 1 : Nat) : Int) * whole) ∧ Hid (∀ y : Nat, lo ≤ y → y < x → getI ys y ≤ numOf (table R false) y) ∧ Hid (Below wv.heap.size wv wr)) (fun sv wr => n1 + 1 - (intOf ((wr.cell? (match sv with | .pointer (some a) => a | _ => ⟨0, 0, none⟩)).getD undef)).toNat)
          case atStart =>
            refine ⟨lo, w8.heap.size, List.replicate n1 0, rfl, World.alloc_heap_new _ _, hlt8, Nat.le_refl _, by omega, (by simp : (List.replicate n1 (0 : Int)).length = n1), ?_, (fun y hy => by rw [List.eq_of_mem_replicate hy]; unfold whole; omega : ∀ y ∈ List.replicate n1 (0 : Int), 0 ≤ y ∧ y ≤ ((kk + 1 : Nat) : Int) * whole), (fun y h1 h2 => by omega : ∀ y : Nat, lo ≤ y → y < lo → getI (List.replicate n1 0) y ≤ numOf (table R false) y), HB8.out.trans (((Below.refl _ w8).alloc (Nat.le_refl _) _).mono hz8)⟩
            show World.ownsRow _ _ _ _ _ _ _
            rw [List.map_replicate, ← toList_madeCells_one]
            exact owns_same HOWN.out fun gg hg => ((Below.refl _ _).alloc (Nat.le_refl _) _).block gg (by simp [Value.ownBlock] at hg; omega)
          case round =>
            obtain ⟨x, SB, ys, rfl, hSB, hSBl, hlx, hx1, hyl, hyo, hyb, hyv, hbr3⟩ := hrel
            clear HOWN HB8 y3 hz8 hlt8
            have hrr : wr.heap[w2.heap.size]? = _ := (hbr3.out.block _ (by omega)).trans HR2.out
            have x0 : wr.cell? ⟨w2.heap.size, 0, none⟩ = some (.int .i64 R.den) := by simp [World.cell?, hrr]
            have x1 : wr.cell? ⟨w2.heap.size, 1, none⟩ = some (.slice (some ⟨b, 0, none⟩) R.aims.length c) := by simp [World.cell?, hrr]
            have x2 : wr.cell? ⟨w2.heap.size, 2, none⟩ = some (.int .i64 (R.start : Int)) := by simp [World.cell?, hrr]
            have x3 : wr.cell? ⟨w2.heap.size, 3, none⟩ = some (.int .i64 R.out) := by simp [World.cell?, hrr]
            have x5 : wr.cell? ⟨SB, 0, none⟩ = some (.int .i64 x) := cell_of_one hSB.out
            have hzr3 := hbr3.out.size
            have hSBz := lt_of_block hSB.out
            by_cases hxs : x ≤ R.start
            · have hxz : (x : Int) ≤ (R.start : Int) := by omega
              have hbwo : Below wo.heap.size wo wr := hbr2.out.trans (hbr3.out.mono hzv)
              have hb5r : Below w5.heap.size w5 wr := hbr.out.trans (hbwo.mono hzo)
              have hbwr : Below w.heap.size w wr := HB05.out.trans (hb5r.mono HB05.out.size)
              have hHr : Held wr w5.heap.size lst0 := hheld0.out.same (hbwo.block _ hlt0)
              have hwx : ((x : Int)).toNat = x := Int.toNat_natCast x
              have htr : ∀ (d : Nat) (y : Int) a, lowest R.out ≤ y → y ≤ x → R.aims[lst0 x d y.toNat]? = some a → Tr a.2 24 (trOf R (fun d y => lst0 x d y.toNat) (byteP nb fb) d y) := fun d y a _ _ ha => by
                unfold trOf
                simp only [ha]
                exact truth_tr (by have := (HROK.out.aims a (List.mem_of_getElem? ha)); rwa [HDEN.out] at this) _ _
              have hxl0 : lowest R.out ≤ (x : Int) := by rw [HLZ.out]; omega
              have hsn := enough HROK.out HDEN.out (visits := nums) (s := x) hxl0 hxs (aim := fun d y => lst0 x d y.toNat) (tr := trOf R (fun d y => lst0 x d y.toNat) (byteP nb fb)) (fun d y hd hdx hy hyx => good_all HDN.out (by have := HN1.out; omega) hxl0 hxs d y hd hdx hy hyx) htr (fun y hy hyx => hup.out y hy (by omega)) 3 x (by omega) (.inr rfl) hxl0 (Int.le_refl _)
              have hsb := stepV_bd HROK.out HDEN.out (visits := nums) (s := x) (c := (kk : Int) * whole) (by unfold whole; omega) hxl0 (up := 0) (.inl rfl) htr (fun y _ _ => ⟨(numOf_bd hno.out y).1, hbd.out y⟩) 3 x hxl0 (Int.le_refl _)
              obtain ⟨l1, l2, -⟩ := HUS.out x hxl0 hxs
              have hvis := visit_any R b 0 c x g 0 n1 n1 nums 18 #[.pointer (some ⟨w5.heap.size, 0, none⟩), .pointer (some ⟨SB, 0, none⟩)] (fun d y => lst0 x d y.toNat) pb nb cb fb 0 wr (enters_of Try.func18 (by kernel_rfl) rfl) HROK.out HDEN.out
                ((HA5.out.below hb5r).mono hb5r.size) hxl0 (by omega) (by omega) (by have := HN1.out; omega) (by omega) (fun y hy => (hbr3.out.cell (p := ⟨g, 0 + y, none⟩) hgz).trans (hcl.out y hy)) hno.out (HBY.out.below hbwr) HFB.out (.inl rfl) (fun d y => hllt0.out x d y.toNat)
                (fun d y W _ hd3 _ hyx _ hW => by
                  have := enough1_any w5.heap.size SB lst0 x d y W (by omega) (by omega) (by omega) (hHr.same (hW.block _ (by omega))) ((hW.cell (p := ⟨SB, 0, none⟩) hSBz).trans x5)
                  simpa using this)
              obtain ⟨sv, hsv⟩ : ∃ sv, stepV R nums x (fun d y => lst0 x d y.toNat) (trOf R (fun d y => lst0 x d y.toNat) (byteP nb fb)) 0 3 x = sv := ⟨_, rfl⟩
              rw [hsv] at hsn hsb hvis
              obtain ⟨ux, hux'⟩ : ∃ ux, numOf (table R false) x = ux := ⟨_, rfl⟩
              rw [hux'] at l1 l2
              have hxn : x < n1 := by have := HN1.out; omega
              have hxnz : (x : Int) < (n1 : Int) := by omega
              have cu0 : wr.cell? ⟨bu, x, none⟩ = some (.int .i64 ux) := by
                have := (hb5r.cell (p := ⟨bu, 0 + x, none⟩) zu).trans (HCU.out x hxn)
                rw [Nat.zero_add, hux'] at this
                exact this
              have hle : 1000000 + sv ≤ ux := by
                rcases l2 with l2 | ⟨-, l2⟩
                · unfold never at l2; unfold whole at hsb; omega
                · unfold whole at l2; omega
              have hg1 : decide (ux < 1000000 + sv) = false := by simp; omega
              have hg2 : decide (ux < 1000000) = false := by unfold whole at l1; simp; omega
              have hnb : 0 ≤ 1000000 + sv ∧ 1000000 + sv ≤ ((kk + 1 : Nat) : Int) * whole := by
                rw [Int.natCast_add, Int.add_mul]
                unfold whole at hsb ⊢
                omega
              have hl3 : ux = 2000000000 ∨ ux ≤ 1000000000 := by
                rcases l2 with l2 | ⟨l2, -⟩
                · unfold never at l2; exact .inl l2
                · unfold maxV at l2; exact .inr l2
              have HVIS := Lib.hid hvis
              have HUX := Lib.hid hux'
              have HNB := Lib.hid hnb
              have HLE := Lib.hid hle
              have HL3 := Lib.hid hl3
              unfold whole at HVIS
              clear hvis hsv hux' hnb hb5r hbwr hbwo hHr hwx htr hxl0 hsn hsb l1 l2 hl3 hrr hle
              go_wp2_with fail
              refine HVIS.out.mono ?_
              rintro e w9 ⟨rfl, hb9⟩
              have d9 := (hb9.cell (p := ⟨bu, x, none⟩) (by simp only; omega)).trans cu0
              have c5 := (hb9.cell (p := ⟨SB, 0, none⟩) hSBz).trans x5
              have hz9 := hb9.size
              have HB9 := Lib.hid hb9
              clear hb9 cu0 x0 x1 x2 x3 x5
              rcases HL3.out with hl3 | hl3
              · have hg3 : decide (1000000000 < ux) = true := by simp; omega
                have hg4 : (ux != 2000000000) = false := by simp; omega
                clear hl3
                have own9 : w9.ownsRow wv.heap.size 3 1 (.slice (some ⟨wv.heap.size, 0, none⟩) n1 n1) n1 (ys.map (Value.int .i64)) := owns_same hyo.out fun gg hg => HB9.out.block gg (by simp [Value.ownBlock] at hg; omega)
                have hxl : x < ys.length := by rw [hyl.out]; exact hxn
                have hcx : w9.cell? ⟨wv.heap.size, x, none⟩ = some (.int .i64 (getI ys x)) := by
                  have := own9.cells rfl x (.int .i64 (getI ys x)) (by rw [List.getElem?_map]; simp [getI, hxl])
                  have hadd : (⟨wv.heap.size, 0, none⟩ : Addr).add x = ⟨wv.heap.size, x, none⟩ := by unfold Addr.add; split <;> simp_all
                  rwa [hadd] at this
                have hfx : w9.frozen? ⟨wv.heap.size, x, none⟩ = false := World.ownsRow.frozenAt own9 x
                have hst := (World.ownsRow.stored (w := w9) own9 x (.int .i64 (1000000 + sv))).1
                have HST := Lib.hid hst
                have HC5 := Lib.hid c5
                clear hst own9
                go_wp2
                go_roundw
                case rel =>
                  refine ⟨x + 1, w9.heap.size, ys.set x (1000000 + sv), rfl, ?_, by omega, by omega, by omega, (by rw [List.length_set]; exact hyl.out : (ys.set x (1000000 + sv)).length = n1), ?_, (fun y hy => ?_ : ∀ y ∈ ys.set x (1000000 + sv), 0 ≤ y ∧ y ≤ ((kk + 1 : Nat) : Int) * whole), (fun y h1 h2 => ?_ : ∀ y : Nat, lo ≤ y → y < x + 1 → getI (ys.set x (1000000 + sv)) y ≤ numOf (table R false) y), ?_⟩
                  · have h := World.alloc_heap_new (w9.setCell ⟨wv.heap.size, x, none⟩ (.int .i64 (1000000 + sv))) (Obj.cells #[.int .i64 (((x + 1 : Nat)) : Int)] 3)
                    rw [show (w9.setCell ⟨wv.heap.size, x, none⟩ (.int .i64 (1000000 + sv))).heap.size = w9.heap.size from by simp [World.setCell]] at h
                    exact h
                  · show World.ownsRow _ _ _ _ _ _ _
                    rw [List.map_set]
                    refine owns_same HST.out fun gg hg => ((Below.refl _ _).alloc (Nat.le_refl _) _).block gg ?_
                    simp [Value.ownBlock] at hg
                    simp [World.setCell]
                    omega
                  · rcases List.mem_or_eq_of_mem_set hy with hy | rfl
                    · exact hyb.out y hy
                    · exact HNB.out
                  · rw [getI_set _ _ _ _ hxl]
                    by_cases hyx : y = x
                    · rw [if_pos hyx, hyx, HUX.out]
                      exact HLE.out
                    · rw [if_neg hyx]
                      exact hyv.out y h1 (by omega)
                  · exact (hbr3.out.trans (HB9.out.mono (by omega))).trans (((Below.refl _ w9).setCell (p := ⟨wv.heap.size, x, none⟩) (Nat.le_refl _) _).alloc (by simp [World.setCell]; omega) _)
                case measure =>
                  have e1 : ((w9.setCell ⟨wv.heap.size, x, none⟩ (.int .i64 (1000000 + sv))).alloc (Obj.cells #[.int .i64 ((x : Int) + 1)] 3)).cell? ⟨w9.heap.size, 0, none⟩ = some (.int .i64 ((x : Int) + 1)) := by rw [cell_new _ _ _ _ _ _ (by simp [World.setCell])]; rfl
                  have e2 : wr.cell? ⟨SB, 0, none⟩ = some (.int .i64 x) := cell_of_one hSB.out
                  simp only [e1, e2, Option.getD_some, intOf]
                  omega
              · have hg3 : decide (1000000000 < ux) = false := by simp; omega
                clear hl3
                have own9 : w9.ownsRow wv.heap.size 3 1 (.slice (some ⟨wv.heap.size, 0, none⟩) n1 n1) n1 (ys.map (Value.int .i64)) := owns_same hyo.out fun gg hg => HB9.out.block gg (by simp [Value.ownBlock] at hg; omega)
                have hxl : x < ys.length := by rw [hyl.out]; exact hxn
                have hcx : w9.cell? ⟨wv.heap.size, x, none⟩ = some (.int .i64 (getI ys x)) := by
                  have := own9.cells rfl x (.int .i64 (getI ys x)) (by rw [List.getElem?_map]; simp [getI, hxl])
                  have hadd : (⟨wv.heap.size, 0, none⟩ : Addr).add x = ⟨wv.heap.size, x, none⟩ := by unfold Addr.add; split <;> simp_all
                  rwa [hadd] at this
                have hfx : w9.frozen? ⟨wv.heap.size, x, none⟩ = false := World.ownsRow.frozenAt own9 x
                have hst := (World.ownsRow.stored (w := w9) own9 x (.int .i64 (1000000 + sv))).1
                have HST := Lib.hid hst
                have HC5 := Lib.hid c5
                clear hst own9
                go_wp2
                go_roundw
                case rel =>
                  refine ⟨x + 1, w9.heap.size, ys.set x (1000000 + sv), rfl, ?_, by omega, by omega, by omega, (by rw [List.length_set]; exact hyl.out : (ys.set x (1000000 + sv)).length = n1), ?_, (fun y hy => ?_ : ∀ y ∈ ys.set x (1000000 + sv), 0 ≤ y ∧ y ≤ ((kk + 1 : Nat) : Int) * whole), (fun y h1 h2 => ?_ : ∀ y : Nat, lo ≤ y → y < x + 1 → getI (ys.set x (1000000 + sv)) y ≤ numOf (table R false) y), ?_⟩
                  · have h := World.alloc_heap_new (w9.setCell ⟨wv.heap.size, x, none⟩ (.int .i64 (1000000 + sv))) (Obj.cells #[.int .i64 (((x + 1 : Nat)) : Int)] 3)
                    rw [show (w9.setCell ⟨wv.heap.size, x, none⟩ (.int .i64 (1000000 + sv))).heap.size = w9.heap.size from by simp [World.setCell]] at h
                    exact h
                  · show World.ownsRow _ _ _ _ _ _ _
                    rw [List.map_set]
                    refine owns_same HST.out fun gg hg => ((Below.refl _ _).alloc (Nat.le_refl _) _).block gg ?_
                    simp [Value.ownBlock] at hg
                    simp [World.setCell]
                    omega
                  · rcases List.mem_or_eq_of_mem_set hy with hy | rfl
                    · exact hyb.out y hy
                    · exact HNB.out
                  · rw [getI_set _ _ _ _ hxl]
                    by_cases hyx : y = x
                    · rw [if_pos hyx, hyx, HUX.out]
                      exact HLE.out
                    · rw [if_neg hyx]
                      exact hyv.out y h1 (by omega)
                  · exact (hbr3.out.trans (HB9.out.mono (by omega))).trans (((Below.refl _ w9).setCell (p := ⟨wv.heap.size, x, none⟩) (Nat.le_refl _) _).alloc (by simp [World.setCell]; omega) _)
                case measure =>
                  have e1 : ((w9.setCell ⟨wv.heap.size, x, none⟩ (.int .i64 (1000000 + sv))).alloc (Obj.cells #[.int .i64 ((x : Int) + 1)] 3)).cell? ⟨w9.heap.size, 0, none⟩ = some (.int .i64 ((x : Int) + 1)) := by rw [cell_new _ _ _ _ _ _ (by simp [World.setCell])]; rfl
                  have e2 : wr.cell? ⟨SB, 0, none⟩ = some (.int .i64 x) := cell_of_one hSB.out
                  simp only [e1, e2, Option.getD_some, intOf]
                  omega
            · have hxn : ¬ (x : Int) ≤ (R.start : Int) := by omega
              have hxe : x = n1 := by have := HN1.out; omega
              have HXE := Lib.hid hxe
              clear hxe x0 x1 x3 hrr
              go_wp2
              go_roundw
              case rel =>
                refine ⟨kk + 1, wv.heap.size, ys, rfl, by go_num, by omega, (hyo.out.lt _ rfl).2, by omega, (fun y hy => ?_ : ∀ y : Nat, y < n1 → wr.cell? ⟨wv.heap.size, 0 + y, none⟩ = some (.int .i64 (numOf ys y))), (fun y hy => ⟨(hyb.out y hy).1, ?_⟩ : ∀ y ∈ ys, 0 ≤ y ∧ y ≤ never), (fun y h1 h2 => ⟨?_, ?_⟩ : ∀ y : Int, lowest R.out ≤ y → y ≤ R.start → 0 ≤ numOf ys y ∧ numOf ys y ≤ numOf (table R false) y), (fun y => ?_ : ∀ y : Int, numOf ys y ≤ ((kk + 1 : Nat) : Int) * whole), hbr2.out.trans (hbr3.out.mono hzv)⟩
                · have hyl2 : y < ys.length := by rw [hyl.out]; exact hy
                  have := hyo.out.cells rfl y (.int .i64 (numOf ys y)) (by rw [List.getElem?_map]; simp [numOf, hyl2])
                  have hadd : (⟨wv.heap.size, 0, none⟩ : Addr).add y = ⟨wv.heap.size, 0 + y, none⟩ := by unfold Addr.add; split <;> simp_all
                  rwa [hadd] at this
                · have := (hyb.out y hy).2
                  unfold whole at this
                  unfold never
                  omega
                · unfold numOf
                  cases h : ys[y.toNat]? with
                  | none => simp
                  | some v => exact (hyb.out v (List.mem_of_getElem? h)).1
                · obtain ⟨y, rfl⟩ : ∃ m : Nat, y = m := ⟨y.toNat, by have := HLZ.out; omega⟩
                  have := hyv.out y (by have := HLZ.out; omega) (by have := HXE.out; have := HN1.out; omega)
                  simpa [getI, numOf] using this
                · unfold numOf
                  cases h : ys[y.toNat]? with
                  | none => simp only [Option.getD_none]; unfold whole; omega
                  | some v => exact (hyb.out v (List.mem_of_getElem? h)).2
              case measure => simp [intOf]; omega
        · have hkz : ¬ (kk : Int) < 3 := by omega
          go_wp2_with fail
          refine (HKN.out wr).mono ?_
          rintro e w9 ⟨rfl, hb9⟩
          have HB9 := Lib.hid (HB05.out.trans ((hbr.out.trans ((hbr2.out.trans (hb9.mono hbr2.out.size)).mono hzo)).mono HB05.out.size))
          clear hb9
          go_wp2
          go_ret
          exact ⟨rfl, HB9.out⟩

end Go.Proofs.Ytnaehbgmfajdjaa
