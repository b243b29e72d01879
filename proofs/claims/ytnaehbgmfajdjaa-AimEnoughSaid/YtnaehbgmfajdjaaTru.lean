/- truth of the statements' package: a truth of an aim, by bytes. -/
import Derived.Laws.OwnMore
import Derived.IntWalk
import Derived.Deep.Onto
import Derived.Test.YtnaehbgmfajdjaaLay
import Derived.Test.YtnaehbgmfajdjaaLawA
import Derived.Test.YtnaehbgmfajdjaaTruthP
namespace Go.Proofs.Ytnaehbgmfajdjaa
open Go.RowKit AimP

theorem take_low_succ (l : List PBed) (i : Nat) (x : PBed) (h : l[i]? = some x) : ((l.take (i + 1)).map PBed.low) = (l.take i).map PBed.low ++ [x.low] := by
  rw [List.take_add_one, h]; simp

set_option maxRecDepth 100000 in
set_option maxHeartbeats 2000000 in
theorem truth_any (at0 : Int) (bb ob cb : Nat) (l : List PBed) (p : Option Addr) (n c : Nat) (g : Nat → Nat) (at' : Nat) (w : World) (hok : AimOk 24 l) (hbb : bb < w.heap.size) (hB : BedsAt w bb ob l) (hL : ListAt w .u8 p n g) (hg : ∀ j, g j < 256) (hat : at' ≤ 1000) :
    Calls Try.prog 22 #[.agg #[.int .i64 at0, .slice (some ⟨bb, ob, none⟩) l.length cb], .slice p n c, .int .i64 at'] w
      fun e w' => ∃ b cap, e = .returned (.slice (some ⟨b, 0, none⟩) l.length cap) ∧ Below w.heap.size w w' ∧ w'.ownsRow w.heap.size 3 1 (.slice (some ⟨b, 0, none⟩) l.length cap) l.length ((truthP l (byteP n g) at').map (Value.int .i64)) := by
  obtain ⟨inf, hin, hz0, hz1, hz2⟩ := info_parts infoInt
  have hlen := hok.len
  have hlen1 := hok.len1
  have hsm := hok.small
  have hlt0 := fun j => lowsTo_le l 24 hsm (by omega) j
  have hby := fun (i : Nat) (ii : Int) W (hW : Below w.heap.size w W) (hii : ii = i) (hi : i ≤ 1000000) => byteOf_any p n c g i ii (byteP n g i) W (hL.below hW) hii hi rfl
  have hbp := fun i => byteP_lt (n := n) hg i
  have hinv := tInv hok (byteP n g) at'
  have hdone := tDone hok (byteP n g) at'
  have htr := truth_at hok (byteP n g) at'
  obtain ⟨G, hG⟩ : ∃ G, byteP n g = G := ⟨_, rfl⟩
  rw [hG] at hby hbp hinv hdone htr ⊢
  have hpl := fun k => pickB_lt (len := l.length) (by omega) G at' k
  have HB := Lib.hid hB
  have HBY := Lib.hid hby
  have HBP := Lib.hid hbp
  have HI := Lib.hid hinv
  have HD := Lib.hid hdone
  have HT := Lib.hid htr
  have HS := Lib.hid hsm
  have HLT := Lib.hid hlt0
  have HPL := Lib.hid hpl
  have HG := Lib.hid hg
  have HIN := Lib.hid hin
  have HZ0 := Lib.hid hz0
  have HZ1 := Lib.hid hz1
  have HZ2 := Lib.hid hz2
  clear hok hB hL hg hby hbp hinv hdone htr hsm hlt0 hpl hG hin hz0 hz1 hz2
  go_enter Try.func22, Try.ntmps22
  go_wp2_with fail
  obtain ⟨wa, hwa⟩ : ∃ wa, (w.alloc (Obj.cells #[Value.int IntKind.i64 at0, .slice (some ⟨bb, ob, none⟩) l.length cb] 56)).alloc (Obj.cells #[] 3) = wa := ⟨_, rfl⟩
  have hBa : Below w.heap.size w wa := by rw [← hwa]; exact ((Below.refl _ _).alloc (Nat.le_refl _) _).alloc (by simp) _
  have za : wa.heap.size = w.heap.size + 2 := by rw [← hwa]; simp
  have a1 : wa.cell? ⟨w.heap.size, 1, none⟩ = some (.slice (some ⟨bb, ob, none⟩) l.length cb) := by rw [← hwa, cell_old _ _ _ (by simp), cell_new _ _ _ _ _ _ rfl]; rfl
  have o0 : wa.ownsRow (w.heap.size + 1) 3 1 (.slice (some ⟨w.heap.size + 1, 0, none⟩) 0 0) 0 [] := by
    have := World.ownsRow_made (base := w.heap.size + 1) (e := 3) (size := 1) (w.alloc (Obj.cells #[Value.int IntKind.i64 at0, .slice (some ⟨bb, ob, none⟩) l.length cb] 56)) #[] 0 (by simp) (by decide) rfl
    rw [World.size_alloc, hwa] at this
    exact this
  have HBA := Lib.hid hBa
  rw [hwa]
  clear hwa hBa
  go_loopw [7, 8, 9] (fun v m i wr => ∃ k : Nat, k ≤ l.length ∧ i = .int .i64 k ∧ m = .int .i64 (24 - lowsTo l k) ∧ wr.ownsRow (w.heap.size + 1) 3 1 v k (((l.take k).map PBed.low).map (Value.int .i64)) ∧ Hid (Below (w.heap.size + 1) wa wr) ∧ wr.cell? ⟨w.heap.size, 1, none⟩ = some (.slice (some ⟨bb, ob, none⟩) l.length cb)) (fun _ _ i _ => l.length - (intOf i).toNat)
  case atStart => exact ⟨0, Nat.zero_le _, rfl, by simp [lowsTo], o0, Below.refl _ _, a1⟩
  case round =>
    obtain ⟨k, hk, rfl, rfl, hown, hBr, c1⟩ := hrel
    clear a1 o0
    have HOW := Lib.hid hown
    have hzr := hBr.out.size
    clear hown
    have hbw : Below w.heap.size w wr := HBA.out.trans (hBr.out.mono (by omega))
    by_cases hkt : k < l.length
    · obtain ⟨x, hx⟩ : ∃ x, l[k]? = some x := ⟨l[k], by simp [hkt]⟩
      obtain ⟨_, x1, _⟩ := HB.out.below hbw hbb k x hx
      have hxs := HS.out x (List.mem_of_getElem? hx)
      have hl0 := HLT.out k
      have hls : Hid (lowsTo l (k + 1) = lowsTo l k + x.low) := by unfold Hid; simp [lowsTo, hx]
      have htk : Hid (((l.take (k + 1)).map PBed.low) = (l.take k).map PBed.low ++ [x.low]) := take_low_succ l k x hx
      have HBW := Lib.hid hbw
      have hkz : (k : Int) < (l.length : Int) := by omega
      obtain ⟨lt, hlt⟩ : ∃ lt, lowsTo l k = lt := ⟨_, rfl⟩
      rw [hlt] at hl0 hls ⊢
      have HLTK := Lib.hid hlt
      obtain ⟨xl, hxl⟩ : ∃ xl, x.low = xl := ⟨_, rfl⟩
      rw [hxl] at x1 hxs hls htk
      have HXL := Lib.hid hxl
      clear hx hbw hlt hxl
      go_wp2_with (at_builtin; refine wpList_append_own _ rfl _ _ 33 rfl (w.heap.size + 1) 3 inf (.int .i64 0) 1 8 Try.underlying33 HIN.out HZ0.out HZ1.out HZ2.out rfl (by decide) _ k _ rfl (HOW.out.alloc _) ⟨wr.heap.size, 0, none⟩ 1 1 [.int .i64 xl] rfl rfl ?c1 ?c2 ?c3 ?c4 ?c5 ?_)
      case c1 => exact cell_one_new _ _ _
      case c2 => simp [Value.oneCell']
      case c3 => unfold maxLen; omega
      case c4 => omega
      case c5 => simp; omega
      intro v' w3 hown3 hgrow _
      have hz3 := hgrow.size
      rw [World.size_alloc] at hz3
      have hb3 : Below (w.heap.size + 1) wr w3 := ((Below.refl (w.heap.size + 1) wr).alloc (by omega) _).trans (grown_below hgrow (by simp; omega) (fun j e => (HOW.out.lt j e).1))
      have hb3' : Hid (Below (w.heap.size + 1) wa w3) := hBr.out.trans hb3
      have d1 : w3.cell? ⟨w.heap.size, 1, none⟩ = some (.slice (some ⟨bb, ob, none⟩) l.length cb) := (hb3.cell (p := ⟨w.heap.size, 1, none⟩) (by simp only; omega)).trans c1
      have y1 : w3.cell? ⟨bb, ob + k * 3 + 1, none⟩ = some (.int .i64 xl) := (hb3.cell (p := ⟨bb, ob + k * 3 + 1, none⟩) (by simp only; omega)).trans x1
      have hown4 : Hid (w3.ownsRow (w.heap.size + 1) 3 1 v' (k + 1) (((l.take (k + 1)).map PBed.low).map (Value.int .i64))) := by
        unfold Hid
        rw [htk.out]
        simpa using hown3
      clear hown3 hgrow hb3 hBr HOW c1 x1
      go_wp2
      go_roundw
      case rel => exact ⟨k + 1, hkt, by go_num, by rw [hls.out]; go_num, hown4.out, hb3', d1⟩
      case measure => simp [intOf]; omega
    · obtain rfl : k = l.length := by omega
      obtain ⟨g0, cap, hv, hg1, hg2⟩ := HOW.out.form (by omega)
      subst hv
      have hst1 : Hid ((24 - lowsTo l l.length : Int) = (tState l G at' 0).2) := by unfold Hid; rw [tState, lowsTo_all]
      have hOW : Hid (wr.ownsRow (w.heap.size + 1) 3 1 (.slice (some ⟨g0, 0, none⟩) l.length cap) l.length ((tState l G at' 0).1.map (Value.int .i64))) := by
        have := HOW.out
        rw [List.take_length] at this
        exact this
      have HBW : Hid (Below w.heap.size w wr) := hbw
      have hb8 := HLT.out l.length
      have hkk : ¬ ((l.length : Int) < (l.length : Int)) := by omega
      clear HOW hBr hbw
      go_wp2
      go_loopw [8, 10] (fun m kk wr => ∃ j : Nat, j ≤ 8 + l.length ∧ kk = .int .i64 j ∧ m = .int .i64 (tState l G at' j).2 ∧ Hid (wr.ownsRow (w.heap.size + 1) 3 1 (.slice (some ⟨g0, 0, none⟩) l.length cap) l.length ((tState l G at' j).1.map (Value.int .i64))) ∧ Hid (Below w.heap.size w wr) ∧ wr.cell? ⟨w.heap.size, 1, none⟩ = some (.slice (some ⟨bb, ob, none⟩) l.length cb) ∧ w.heap.size < wr.heap.size ∧ g0 < wr.heap.size) (fun _ kk _ => 9 + l.length - (intOf kk).toNat)
      case atStart => exact ⟨0, Nat.zero_le _, rfl, by rw [hst1.out], hOW, HBW, c1, by omega, hg2⟩
      case round =>
        obtain ⟨j, hj, rfl, rfl, hOr, hBr, e1, z1, z2⟩ := hrel
        clear c1 hOW hst1 HBW hg2 hzr
        obtain ⟨s, hs⟩ : ∃ s, tState l G at' j = s := ⟨_, rfl⟩
        have hi := HI.out j
        have hd := HD.out j
        have hbr := HBP.out (at' + j)
        have hbr2 := HBP.out (at' + j + 1)
        have hpl := HPL.out j
        have hnext : tState l G at' (j + 1) = (s.1.set (pickB l.length G at' j) (getI s.1 (pickB l.length G at' j) + moreB l G at' j s), s.2 - moreB l G at' j s) := by rw [tState, hs]
        obtain ⟨q, hq⟩ : ∃ q, pickB l.length G at' j = q := ⟨_, rfl⟩
        rw [hs] at hOr hi hd ⊢
        rw [hq] at hpl hnext
        obtain ⟨x, hx⟩ : ∃ x, l[q]? = some x := ⟨l[q], by simp [hpl]⟩
        have hxs := HS.out x (List.mem_of_getElem? hx)
        obtain ⟨_, _, x2⟩ := HB.out.below hBr.out hbb q x hx
        have hho : highOf l q = x.high := by simp [highOf, hx]
        have hib := hi.bd q hpl
        rw [hho] at hib
        have hil := (lowOf_le HS.out q hpl).1
        have him := hi.miss
        have hit := hi.tot
        have hcell : wr.cell? ⟨g0, q, none⟩ = some (.int .i64 (getI s.1 q)) := by
          have := hOr.out.cells rfl q (.int .i64 (getI s.1 q)) (by
            rw [List.getElem?_map]
            have hsl : q < s.1.length := by rw [hi.len]; exact hpl
            simp [getI, hsl])
          have hadd : (⟨g0, 0, none⟩ : Addr).add q = ⟨g0, q, none⟩ := by unfold Addr.add; split <;> simp_all
          rwa [hadd] at this
        have htot0 : s.2 ≤ 24 := by
          have := lows_nonneg HS.out
          have h2 : 0 ≤ total s.1 := by
            have : ∀ t : List Int, (∀ i, i < t.length → 0 ≤ getI t i) → 0 ≤ total t := by
              intro t
              induction t with
              | nil => intro _; simp [total]
              | cons a t ih =>
                intro h
                have h0 := h 0 (by simp)
                simp [getI] at h0
                have := ih fun i hi => by
                  have := h (i + 1) (by simpa using hi)
                  simpa [getI] using this
                simp only [total]; omega
            exact this s.1 fun i hi' => by
              have h1 := hi.bd i (by rw [← hi.len]; exact hi')
              have h2 := (lowOf_le HS.out i (by rw [← hi.len]; exact hi')).1
              omega
          omega
        obtain ⟨m, hm⟩ : ∃ m, s.2 = m := ⟨_, rfl⟩
        obtain ⟨nv, hnv⟩ : ∃ nv, getI s.1 q = nv := ⟨_, rfl⟩
        obtain ⟨xh, hxh⟩ : ∃ xh, x.high = xh := ⟨_, rfl⟩
        rw [hnv] at hcell hib hnext
        rw [hxh] at x2 hxs hib hho
        rw [hm] at hd htot0 him hnext ⊢
        have HTJ := fun h => HT.out j h
        rw [hs, hm] at HTJ
        have HTJ' := Lib.hid HTJ
        have HQ := Lib.hid hq
        have HHO := Lib.hid hho
        have HM := Lib.hid hm
        have HNV := Lib.hid hnv
        have HSS := Lib.hid hs
        have HNX := Lib.hid hnext
        have HSL : Hid (s.1.length = l.length) := hi.len
        have HOR := Lib.hid hOr.out
        clear HTJ hq hho hm hnv hs hnext hi hx hit hxh hOr
        by_cases hmp : 0 < m
        · have hjl : j < 8 + l.length := by
            rcases Nat.lt_or_ge j (8 + l.length) with h | h
            · exact h
            · exact absurd (hd h) (by omega)
          clear hd
          obtain ⟨gb, hgb⟩ : ∃ gb, G (at' + j) = gb := ⟨_, rfl⟩
          have hcall := fun W (hW : Below w.heap.size w W) => HBY.out (at' + j) ((at' : Int) + (j : Int)) W hW (by omega) (by omega)
          rw [hgb] at hcall hbr
          obtain ⟨gc, hgc⟩ : ∃ gc, G (at' + j + 1) = gc := ⟨_, rfl⟩
          have hcall2 := fun W (hW : Below w.heap.size w W) => HBY.out (at' + j + 1) ((at' : Int) + (j : Int) + 1) W hW (by omega) (by omega)
          rw [hgc] at hcall2 hbr2
          have HCALL2 := Lib.hid hcall2
          have HGC := Lib.hid hgc
          have HCALL := Lib.hid hcall
          have HGB := Lib.hid hgb
          clear hcall hgb hcall2 hgc
          have hz2 : (q : Int) < (l.length : Int) := by omega
          have hln : (l.length : Int) ≠ 0 := by omega
          have hlp : (0 : Int) < (l.length : Int) := by omega
          have hw1 : IntKind.i64.wrap (xh - nv) = xh - nv := IntWalk.i64_in _ (by omega)
          have hfz : wr.frozen? ⟨g0, q, none⟩ = false := World.ownsRow.frozenAt HOR.out q
          obtain ⟨mb, hmb⟩ : ∃ mb, moreB l G at' j s = mb := ⟨_, rfl⟩
          rw [hmb] at HNX
          have hmb2 := hmb
          unfold moreB at hmb2
          rw [HQ.out, HM.out, HHO.out, HNV.out, HGC.out] at hmb2
          have HMB := Lib.hid hmb
          have hBd : Below w.heap.size w wr.drew := hBr.out.trans ⟨rfl, rfl, rfl, Nat.le_refl _, fun _ _ => rfl⟩
          have HBD := Lib.hid hBd
          have hg0 : w.heap.size + 1 ≤ g0 := hg1
          have hgm : 0 ≤ (gc : Int) % 7 ∧ (gc : Int) % 7 ≤ 6 := by omega
          clear hmb hBd
          by_cases h8 : j < 8
          · rw [if_pos h8] at hmb2
            have hqz : ((gb : Int) + (j : Int)) % (l.length : Int) = (q : Int) := by
              have := HQ.out
              rw [pickB, if_neg (by omega), HGB.out] at this
              rw [← this, Int.natCast_emod, Int.natCast_add]
            have h8' : decide ((8 : Int) ≤ (j : Int)) = false := by simp; omega
            have h8'' : (j : Int) < 8 := by omega
            have hcs : (m ≤ xh - nv ∧ m ≤ 1 + (gc : Int) % 7) ∨ (m ≤ xh - nv ∧ 1 + (gc : Int) % 7 < m) ∨ (xh - nv < m ∧ xh - nv ≤ 1 + (gc : Int) % 7) ∨ (xh - nv < m ∧ 1 + (gc : Int) % 7 < xh - nv) := by omega
            have HMB2 := Lib.hid hmb2
            clear hmb2
            rcases hcs with ⟨k1, k2⟩ | ⟨k1, k2⟩ | ⟨k1, k2⟩ | ⟨k1, k2⟩
            all_goals go_wp2_with (first | (go_at_call 21; refine (HCALL.out _ hBr.out).mono ?_; rintro e w' ⟨rfl, rfl⟩))
            all_goals
              refine wp_region_ord (fun W => W.cell? ⟨w.heap.size, 1, none⟩ = some (.slice (some ⟨bb, ob, none⟩) l.length cb) ∧ W.cell? ⟨bb, ob + q * 3 + 1 + 1, none⟩ = some (.int .i64 xh) ∧ W.cell? ⟨g0, q, none⟩ = some (.int .i64 nv)) 15 [(0, 0), (0, 1), (0, 2), (0, 3), (0, 4), (0, 5), (0, 6), (0, 7), (0, 8), (0, 9), (0, 10), (0, 11), (0, 12), (0, 13), (0, 14)] (by kernel_rfl) (by kernel_rfl) ⟨e1, x2, hcell⟩ ?_
              simp only [opsOf, List.map_cons, List.map_nil, List.getElem?_cons_zero, List.getElem?_cons_succ]
              repeat (refine wpOrd_take (v := ?_) (by rfl) ?_ (fun _ _ _ h => h) ?_; rotate_left; (focus (intro W hSw; (try dsimp only at hSw); go_simp; (try with_reducible rfl))); (try simp only [Act.put, List.setIfInBounds_toArray, List.set_cons_zero, List.set_cons_succ]))
              refine wpOrd_done ?_
            all_goals go_wp2_with (first | (go_at_call 21; refine (HCALL2.out _ HBD.out).mono ?_; rintro e w' ⟨rfl, rfl⟩))
            · go_roundw
              case rel =>
                have hst := (World.ownsRow.stored (w := wr) HOR.out q (.int .i64 (nv + mb))).1
                have hmb3 := HMB2.out
                clear hw1
                have e : (nv + m) = nv + mb := by omega
                refine ⟨j + 1, hjl, by go_num, by rw [HNX.out]; exact congrArg (Value.int .i64) (by simp only; omega), ?_, ?_, ?_, ?_, ?_⟩
                · show World.ownsRow _ _ _ _ _ _ _
                  rw [HNX.out, e]
                  simp only [List.map_set]
                  exact hst
                · exact hBr.out.trans (((Below.refl _ _).setCell (p := ⟨g0, q, none⟩) (by simp only; omega) _).trans ⟨rfl, rfl, rfl, Nat.le_refl _, fun _ _ => rfl⟩)
                · exact (World.cell?_setCell_far wr ⟨g0, q, none⟩ ⟨w.heap.size, 1, none⟩ _ (by simp only; omega)).trans e1
                · simpa [World.setCell] using z1
                · simpa [World.setCell] using z2
              case measure => simp [intOf]; omega
            · go_roundw
              case rel =>
                have hst := (World.ownsRow.stored (w := wr) HOR.out q (.int .i64 (nv + mb))).1
                have hmb3 := HMB2.out
                clear hw1
                have e : (nv + (1 + (gc : Int) % 7)) = nv + mb := by omega
                refine ⟨j + 1, hjl, by go_num, by rw [HNX.out]; exact congrArg (Value.int .i64) (by simp only; omega), ?_, ?_, ?_, ?_, ?_⟩
                · show World.ownsRow _ _ _ _ _ _ _
                  rw [HNX.out, e]
                  simp only [List.map_set]
                  exact hst
                · exact hBr.out.trans (((Below.refl _ _).setCell (p := ⟨g0, q, none⟩) (by simp only; omega) _).trans ⟨rfl, rfl, rfl, Nat.le_refl _, fun _ _ => rfl⟩)
                · exact (World.cell?_setCell_far wr ⟨g0, q, none⟩ ⟨w.heap.size, 1, none⟩ _ (by simp only; omega)).trans e1
                · simpa [World.setCell] using z1
                · simpa [World.setCell] using z2
              case measure => simp [intOf]; omega
            · go_roundw
              case rel =>
                have hst := (World.ownsRow.stored (w := wr) HOR.out q (.int .i64 (nv + mb))).1
                have hmb3 := HMB2.out
                clear hw1
                have e : (nv + (xh - nv)) = nv + mb := by omega
                refine ⟨j + 1, hjl, by go_num, by rw [HNX.out]; exact congrArg (Value.int .i64) (by simp only; omega), ?_, ?_, ?_, ?_, ?_⟩
                · show World.ownsRow _ _ _ _ _ _ _
                  rw [HNX.out, e]
                  simp only [List.map_set]
                  exact hst
                · exact hBr.out.trans (((Below.refl _ _).setCell (p := ⟨g0, q, none⟩) (by simp only; omega) _).trans ⟨rfl, rfl, rfl, Nat.le_refl _, fun _ _ => rfl⟩)
                · exact (World.cell?_setCell_far wr ⟨g0, q, none⟩ ⟨w.heap.size, 1, none⟩ _ (by simp only; omega)).trans e1
                · simpa [World.setCell] using z1
                · simpa [World.setCell] using z2
              case measure => simp [intOf]; omega
            · go_roundw
              case rel =>
                have hst := (World.ownsRow.stored (w := wr) HOR.out q (.int .i64 (nv + mb))).1
                have hmb3 := HMB2.out
                clear hw1
                have e : (nv + (1 + (gc : Int) % 7)) = nv + mb := by omega
                refine ⟨j + 1, hjl, by go_num, by rw [HNX.out]; exact congrArg (Value.int .i64) (by simp only; omega), ?_, ?_, ?_, ?_, ?_⟩
                · show World.ownsRow _ _ _ _ _ _ _
                  rw [HNX.out, e]
                  simp only [List.map_set]
                  exact hst
                · exact hBr.out.trans (((Below.refl _ _).setCell (p := ⟨g0, q, none⟩) (by simp only; omega) _).trans ⟨rfl, rfl, rfl, Nat.le_refl _, fun _ _ => rfl⟩)
                · exact (World.cell?_setCell_far wr ⟨g0, q, none⟩ ⟨w.heap.size, 1, none⟩ _ (by simp only; omega)).trans e1
                · simpa [World.setCell] using z1
                · simpa [World.setCell] using z2
              case measure => simp [intOf]; omega
          · rw [if_neg h8] at hmb2
            have hqz : (j : Int) % (l.length : Int) = (q : Int) := by
              have := HQ.out
              rw [pickB, if_pos (by omega)] at this
              rw [← this, Int.natCast_emod]
            have h8' : decide ((8 : Int) ≤ (j : Int)) = true := by simp; omega
            have h8'' : ¬ (j : Int) < 8 := by omega
            have h80 : (8 : Int) ≤ (j : Int) := by omega
            have hcs : m ≤ xh - nv ∨ xh - nv < m := by omega
            have HMB2 := Lib.hid hmb2
            clear hmb2
            rcases hcs with k1 | k1
            all_goals go_wp2_with (first | (go_at_call 21; refine (HCALL.out _ hBr.out).mono ?_; rintro e w' ⟨rfl, rfl⟩))
            all_goals
              refine wp_region_ord (fun W => W.cell? ⟨w.heap.size, 1, none⟩ = some (.slice (some ⟨bb, ob, none⟩) l.length cb) ∧ W.cell? ⟨bb, ob + q * 3 + 1 + 1, none⟩ = some (.int .i64 xh) ∧ W.cell? ⟨g0, q, none⟩ = some (.int .i64 nv)) 15 [(0, 0), (0, 1), (0, 2), (0, 3), (0, 4), (0, 5), (0, 6), (0, 7), (0, 8), (0, 9), (0, 10), (0, 11), (0, 12), (0, 13), (0, 14)] (by kernel_rfl) (by kernel_rfl) ⟨e1, x2, hcell⟩ ?_
              simp only [opsOf, List.map_cons, List.map_nil, List.getElem?_cons_zero, List.getElem?_cons_succ]
              repeat (refine wpOrd_take (v := ?_) (by rfl) ?_ (fun _ _ _ h => h) ?_; rotate_left; (focus (intro W hSw; (try dsimp only at hSw); go_simp; (try with_reducible rfl))); (try simp only [Act.put, List.setIfInBounds_toArray, List.set_cons_zero, List.set_cons_succ]))
              refine wpOrd_done ?_
            all_goals go_wp2
            · go_roundw
              case rel =>
                have hst := (World.ownsRow.stored (w := wr) HOR.out q (.int .i64 (nv + mb))).1
                have hmb3 := HMB2.out
                clear hw1
                have e : (nv + m) = nv + mb := by omega
                refine ⟨j + 1, hjl, by go_num, by rw [HNX.out]; exact congrArg (Value.int .i64) (by simp only; omega), ?_, ?_, ?_, ?_, ?_⟩
                · show World.ownsRow _ _ _ _ _ _ _
                  rw [HNX.out, e]
                  simp only [List.map_set]
                  exact hst
                · exact hBr.out.trans (((Below.refl _ _).setCell (p := ⟨g0, q, none⟩) (by simp only; omega) _).trans ⟨rfl, rfl, rfl, Nat.le_refl _, fun _ _ => rfl⟩)
                · exact (World.cell?_setCell_far wr ⟨g0, q, none⟩ ⟨w.heap.size, 1, none⟩ _ (by simp only; omega)).trans e1
                · simpa [World.setCell] using z1
                · simpa [World.setCell] using z2
              case measure => simp [intOf]; omega
            · go_roundw
              case rel =>
                have hst := (World.ownsRow.stored (w := wr) HOR.out q (.int .i64 (nv + mb))).1
                have hmb3 := HMB2.out
                clear hw1
                have e : (nv + (xh - nv)) = nv + mb := by omega
                refine ⟨j + 1, hjl, by go_num, by rw [HNX.out]; exact congrArg (Value.int .i64) (by simp only; omega), ?_, ?_, ?_, ?_, ?_⟩
                · show World.ownsRow _ _ _ _ _ _ _
                  rw [HNX.out, e]
                  simp only [List.map_set]
                  exact hst
                · exact hBr.out.trans (((Below.refl _ _).setCell (p := ⟨g0, q, none⟩) (by simp only; omega) _).trans ⟨rfl, rfl, rfl, Nat.le_refl _, fun _ _ => rfl⟩)
                · exact (World.cell?_setCell_far wr ⟨g0, q, none⟩ ⟨w.heap.size, 1, none⟩ _ (by simp only; omega)).trans e1
                · simpa [World.setCell] using z1
                · simpa [World.setCell] using z2
              case measure => simp [intOf]; omega
        · have hj18 : j ≤ 18 := by omega
          have hm0 : m ≤ 0 := by omega
          have hfin := HTJ'.out hj18 hm0
          have HF := Lib.hid hfin
          clear hd hfin
          go_wp2
          go_ret
          exact ⟨g0, cap, rfl, hBr.out, by rw [← HF.out]; exact World.ownsRow.mono HOR.out (by omega)⟩

end Go.Proofs.Ytnaehbgmfajdjaa
