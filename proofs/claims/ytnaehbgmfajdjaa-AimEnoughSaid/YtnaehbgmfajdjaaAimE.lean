/- (visit).mean of package aim: the mean of an aim at a position. -/
import Derived.Test.YtnaehbgmfajdjaaAimC
import Derived.Test.YtnaehbgmfajdjaaAimD
import Derived.Maps.AppendAt
import Derived.RangeFuncBox
namespace Go.Proofs.Ytnaehbgmfajdjaa
open Go.RowKit AimP

set_option maxRecDepth 100000 in
set_option maxHeartbeats 1000000 in
theorem mean_any (bv bt s : Nat) (r : Rules) (best : Bool) (ba oa ca bn cn : Nat) (num : List Int) (V : Nat → Int → Int) (d left ai : Nat) (aim : Int × List PBed) (q : Int) (w : World)
    (hd : d ≤ 2) (hleft : left ≤ s) (hsn : s < num.length) (hr : RulesOk r) (hs60 : s ≤ r.start) (hai : r.aims[ai]? = some aim) (hV : ValOk bv bt s r best ba oa ca bn cn num V d)
    (hN : ∀ b ∈ aim.2, 0 ≤ nextV r.out num s (V d) left b.bed ∧ nextV r.out num s (V d) left b.bed ≤ 2000000000)
    (hT : TabAt bv w bt r best ba oa ca bn cn num) (hI : VisAt w bv bt s V) (hq : q = mean best r.den aim.2 (aim.2.map fun b => nextV r.out num s (V d) left b.bed)) :
    Calls Try.prog 140 #[.pointer (some ⟨bv, 0, none⟩), .int .i64 (ai : Int), .int .i64 (left : Int), .int .i64 ((d : Int) + 1)] w
      fun e w' => e = .returned (.int .i64 q) ∧ But bv w.heap.size w w' ∧ VisAt w' bv bt s V := by
  have hst := hr.start
  have haz : ai < r.aims.length := (List.getElem?_eq_some_iff.1 hai).1
  have hlz := hr.len
  have hok := hr.aims aim (List.mem_of_getElem? hai)
  have hbvz := hI.lt
  obtain ⟨_, bb, ob, cb, hc1, hbbn, hB⟩ := hT.aims.2 ai aim hai
  have hban := hT.aims.1
  have hl1 := hok.len1
  have hl10 := hok.len
  obtain ⟨l, hl⟩ : ∃ l, aim.2 = l := ⟨_, rfl⟩
  rw [hl] at hok hN hq hc1 hB hl1 hl10
  obtain ⟨f, hf⟩ : ∃ f : Int → Int, (fun b => nextV r.out num s (V d) left b) = f := ⟨_, rfl⟩
  have hf' : ∀ b, nextV r.out num s (V d) left b = f b := fun b => by rw [← hf]
  simp only [hf'] at hN hq
  have hnext := fun (b : Int) (W : World) (h0 : 0 ≤ b) (h1 : b ≤ 425) (h2 : TabAt bv W bt r best ba oa ca bn cn num) (h3 : VisAt W bv bt s V) => next_any bv bt s r best ba oa ca bn cn num V d left b (f b) W hd hleft (by omega) hsn h0 h1 hV h2 h3 (hf' b).symm
  have HNX := Lib.hid hnext
  have HT := Lib.hid hT
  have HI := Lib.hid hI
  have HQ := Lib.hid hq
  have HN := Lib.hid hN
  have HB := Lib.hid hB
  have HOK := Lib.hid hok
  have HR := Lib.hid hr
  have t1 := hT.c1
  have i0 := hI.c0
  have hazz : (ai : Int) < (r.aims.length : Int) := by omega
  have hC1 := Lib.hid hc1
  obtain ⟨inf, hi, hz0, hz1, hz2⟩ := info_parts infoInt
  have HIN := Lib.hid hi
  have HZ0 := Lib.hid hz0
  have HZ1 := Lib.hid hz1
  have HZ2 := Lib.hid hz2
  clear hnext hT hI hq hN hB hok hr hi hz0 hz1 hz2 hV hf hf' hl hai
  go_enter Try.func140, Try.ntmps140
  go_wp2
  go_loopw [9, 26] (fun v vk wr => ∃ k : Nat, k ≤ l.length ∧ vk = .int .i64 k ∧ wr.ownsRow w.heap.size 3 1 v k (((l.take k).map fun b => f b.bed).map (Value.int .i64)) ∧ But bv w.heap.size w wr ∧ VisAt wr bv bt s V) (fun _ vk _ => l.length - (intOf vk).toNat)
  case atStart => exact ⟨0, by omega, rfl, World.ownsRow_nil _ _ _ _, But.refl _ _ _, HI.out⟩
  case round =>
    obtain ⟨k, hk, rfl, hown, hbr, hvr⟩ := hrel
    have hzr := hbr.size
    have hTr : Hid (TabAt bv wr bt r best ba oa ca bn cn num) := HT.out.below (hbr.under (by omega))
    have HVR := Lib.hid hvr
    have HBR := Lib.hid hbr
    have HOW := Lib.hid hown
    clear hvr hbr hown
    by_cases hkt : k < l.length
    · obtain ⟨x, hx⟩ : ∃ x, l[k]? = some x := ⟨l[k], by simp [hkt]⟩
      obtain ⟨c0, c1, c2⟩ := HB.out.below (HBR.out.under (by omega)) hbbn k x hx
      obtain ⟨b0, b1⟩ := HOK.out.beds x (List.mem_of_getElem? hx)
      have hkz : (k : Int) < (l.length : Int) := by omega
      have HX := Lib.hid hx
      clear hx
      go_wp2_with fail
      have hal := (Below.refl wr.heap.size wr).alloc (Nat.le_refl _) (Obj.cells #[Value.int IntKind.i64 x.bed, Value.int IntKind.i64 x.low, Value.int IntKind.i64 x.high] 61)
      refine (HNX.out x.bed _ b0 b1 (hTr.out.below (hal.mono (by omega))) (HVR.out.below hal (by omega))).mono ?_
      rintro e w2 ⟨rfl, hb2, hv2⟩
      rw [World.size_alloc] at hb2
      have hbw2 := (HBR.out.alloc (by omega) (Obj.cells #[Value.int IntKind.i64 x.bed, Value.int IntKind.i64 x.low, Value.int IntKind.i64 x.high] 61)).trans (hb2.mono (by omega))
      have hz2' := hb2.size
      rw [World.size_alloc] at hz2'
      have hown2 : w2.ownsRow w.heap.size 3 1 u9 k (((l.take k).map fun b => f b.bed).map (Value.int .i64)) := by
        refine (HOW.out.alloc (Obj.cells #[Value.int IntKind.i64 x.bed, Value.int IntKind.i64 x.low, Value.int IntKind.i64 x.high] 61)).kept (row := some bv) ⟨hb2.os, hb2.tape, hb2.output, hb2.size, fun j hj hne => hb2.block j (by simpa using hj) (fun e => hne (by rw [e]))⟩ ?_
        right
        intro e
        have := (HOW.out.lt bv e).1
        omega
      have HO2 := Lib.hid hown2
      have HV2 := Lib.hid hv2
      have HB2 := Lib.hid hbw2
      clear hown2 hv2 hbw2 hb2 hal
      go_wp2_with (at_builtin; refine wpList_append_own _ rfl _ _ 33 rfl w.heap.size 3 inf (.int .i64 0) 1 8 Try.underlying33 HIN.out HZ0.out HZ1.out HZ2.out rfl (by decide) _ k _ rfl (HO2.out.alloc _) ⟨w2.heap.size, 0, none⟩ 1 1 [.int .i64 (f x.bed)] rfl rfl ?c1 ?c2 ?c3 ?c4 ?c5 ?_)
      case c1 => exact cell_one_new _ _ _
      case c2 => simp [Value.oneCell']
      case c3 => unfold maxLen; omega
      case c4 => omega
      case c5 => simp; omega
      intro v' w3 hown3 hgrow _
      have hbw3 := (HB2.out.alloc (by omega) (Obj.cells #[Value.int IntKind.i64 (f x.bed)] 3)).grown hgrow (by simp; omega) (fun j e => Or.inr (HO2.out.lt j e).1)
      have hz3 := hgrow.size
      rw [World.size_alloc] at hz3
      have hv3 : VisAt w3 bv bt s V := by
        refine HV2.out.same (by omega) ?_
        have h1 := hgrow.block bv (by simp; omega) (fun e => by have := (HO2.out.lt bv e.symm).1; omega)
        rw [h1]
        exact Below.heap_alloc _ _ _ (by omega)
      have ho3 : w3.ownsRow w.heap.size 3 1 v' (k + 1) (((l.take (k + 1)).map fun b => f b.bed).map (Value.int .i64)) := by
        rw [List.take_add_one, HX.out]
        simpa using hown3
      have HO3 := Lib.hid ho3
      have HV3 := Lib.hid hv3
      have HB3 := Lib.hid hbw3
      clear hown3 hgrow hv3 hbw3 ho3
      go_wp2
      go_roundw
      case rel => exact ⟨k + 1, by omega, by go_num, HO3.out, HB3.out, HV3.out⟩
      case measure => simp [intOf]; omega
    · obtain rfl : k = l.length := by omega
      obtain ⟨m1, hm1⟩ : ∃ m, l.length = m + 1 := ⟨l.length - 1, by omega⟩
      obtain ⟨g, cap, hu9⟩ : ∃ g cap, u9 = .slice (some ⟨g, 0, none⟩) l.length cap := by
        have h := HOW.out
        rw [hm1] at h ⊢
        exact ownsRow_succ h
      subst hu9
      clear hm1
      have hg := HOW.out.lt g rfl
      rw [List.take_length] at HOW
      have t0 := hTr.out.c0
      have t1' := hTr.out.c1
      have t4 := hTr.out.c4
      have i0' := HVR.out.c0
      have tb := HB.out.below (HBR.out.under (by omega)) hbbn
      have tc := (HBR.out.under (by omega)).cell (p := ⟨ba, oa + ai * 2 + 1, none⟩) hban
      have HTB := Lib.hid tb
      have HTC := Lib.hid tc
      have hm := fun W (h1 : ba < W.heap.size) (h2 : bb < W.heap.size) (h3 : W.cell? ⟨ba, oa + ai*2 + 1, none⟩ = some (.slice (some ⟨bb, ob, none⟩) l.length cb)) (h4 : BedsAt W bb ob l)
        (h5 : W.ownsRow w.heap.size 3 1 (.slice (some ⟨g, 0, none⟩) l.length cap) l.length ((l.map fun b => f b.bed).map (Value.int .i64))) =>
        sideMean best r.den ai ba oa r.aims.length ca bb ob cb g cap w.heap.size l (l.map fun b => f b.bed) q W haz h1 h2 (by omega) h3 h4 h5 hl1 hl10 (by simp)
          (fun x hx => by have := HOK.out.small x hx; have := HR.out.den; omega) HR.out.den1 HR.out.den HOK.out.lows HOK.out.highs (fun v hv => by obtain ⟨b, hb, rfl⟩ := List.mem_map.1 hv; exact HN.out b hb) HQ.out
      have HM := Lib.hid hm
      clear tb tc hm
      go_wp2_with fail
      go_still_tail 17, (by kernel_rfl)
      change wpList _ _ _ _ _ wr.drew
      go_wp2_with fail
      refine (HM.out _ ?_ ?_ ?_ ?_ ?_).mono ?_
      · show ba < wr.heap.size; omega
      · show bb < wr.heap.size; omega
      · exact HTC.out.trans hC1.out
      · exact HTB.out
      · exact HOW.out
      rintro e w2 ⟨rfl, hb2⟩
      have hb2' : But g wr.heap.size wr w2 := ⟨hb2.os, hb2.tape, hb2.output, hb2.size, hb2.block⟩
      have hv2 := HVR.out.but hb2' (by omega) (by omega)
      have hbf := HBR.out.trans (.of ((hb2'.mono hzr).below hg.1))
      have HV2 := Lib.hid hv2
      have HBF := Lib.hid hbf
      clear hb2 hb2' hv2 hbf
      go_wp2
      go_ret
      exact ⟨rfl, HBF.out, HV2.out⟩

end Go.Proofs.Ytnaehbgmfajdjaa
