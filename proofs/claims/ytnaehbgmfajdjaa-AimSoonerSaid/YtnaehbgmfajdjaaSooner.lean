/- AimSooner of the statements' package: no fewer visits are needed, in expectation, than the lower number. -/
import Derived.Test.YtnaehbgmfajdjaaRul
import Derived.Test.YtnaehbgmfajdjaaOwn
import Derived.Test.YtnaehbgmfajdjaaVis
import Derived.Test.YtnaehbgmfajdjaaKnown
namespace Go.Proofs.Ytnaehbgmfajdjaa
open Go.RowKit AimP

/-- The aims that the statement goes by. -/
def aimS (m n : Nat) (f : Nat → Nat) (k : Nat) (d : Nat) (x : Int) : Nat := byteP n f (7 * x.toNat + 3 * d + k) % m

set_option maxRecDepth 100000 in
set_option maxHeartbeats 1000000 in
theorem sooner1_any (r : Rules) (ba oa ca AB K RB : Nat) (pa : Option Addr) (na cna : Nat) (fa : Nat → Nat) (k d x : Nat) (w : World) (hr : RulesOk r) (hk : k ≤ 10) (hd : d ≤ 3) (hx : x ≤ 60)
    (hA : w.cell? ⟨AB, 0, none⟩ = some (.slice pa na cna)) (hK : w.cell? ⟨K, 0, none⟩ = some (.int .i64 k)) (hR : w.cell? ⟨RB, 1, none⟩ = some (.slice (some ⟨ba, oa, none⟩) r.aims.length ca)) (hL : ListAt w .u8 pa na fa) (hfa : ∀ j, fa j < 256) :
    Calls Try.prog 20 #[.int .i64 x, .int .i64 d, .pointer (some ⟨AB, 0, none⟩), .pointer (some ⟨K, 0, none⟩), .pointer (some ⟨RB, 0, none⟩)] w fun e w' => e = .returned (.int .i64 (aimS r.aims.length na fa k d x)) ∧ Below w.heap.size w w' := by
  have hl1 := hr.len1
  have hl := hr.len
  have hb := byteP_lt (n := na) hfa (7 * x + 3 * d + k)
  have hcall := fun W (hW : Below w.heap.size w W) => byteOf_any pa na cna fa (7 * x + 3 * d + k) (7 * (x : Int) + 3 * (d : Int) + (k : Int)) (byteP na fa (7 * x + 3 * d + k)) W (hL.below hW) (by omega) (by omega) rfl
  obtain ⟨m, hm⟩ : ∃ m, r.aims.length = m := ⟨_, rfl⟩
  rw [hm] at hl1 hl hR ⊢
  obtain ⟨bt, hbt⟩ : ∃ bt, byteP na fa (7 * x + 3 * d + k) = bt := ⟨_, rfl⟩
  rw [hbt] at hb hcall
  have HRES : Hid (aimS m na fa k d x = bt % m) := by unfold Hid aimS; rw [Int.toNat_natCast, hbt]
  have hmod : ((bt : Int).tmod (m : Int)) = ((bt % m : Nat) : Int) := by rw [Int.tmod_eq_emod_of_nonneg (by omega)]; simp
  have hmz : (m : Int) ≠ 0 := by omega
  have hm0 : ¬ m = 0 := by omega
  have hmp : (0 : Int) < (m : Int) := by omega
  have hw0 : IntKind.i64.wrap (7 * (x : Int)) = 7 * (x : Int) := IntWalk.i64_in _ (by omega)
  have hw1 : IntKind.i64.wrap (3 * (d : Int)) = 3 * (d : Int) := IntWalk.i64_in _ (by omega)
  have hw2 : IntKind.i64.wrap (7 * (x : Int) + 3 * (d : Int)) = 7 * (x : Int) + 3 * (d : Int) := IntWalk.i64_in _ (by omega)
  have hw3 : IntKind.i64.wrap (7 * (x : Int) + 3 * (d : Int) + (k : Int)) = 7 * (x : Int) + 3 * (d : Int) + (k : Int) := IntWalk.i64_in _ (by omega)
  have hw4 : IntKind.i64.wrap (bt : Int) = (bt : Int) := IntWalk.i64_in _ (by omega)
  obtain ⟨q, hq⟩ : ∃ q, bt % m = q := ⟨_, rfl⟩
  have hqm : q < m := by rw [← hq]; exact Nat.mod_lt _ (by omega)
  rw [hq] at hmod HRES
  have hw5 : IntKind.i64.wrap (q : Int) = (q : Int) := IntWalk.i64_in _ (by omega)
  have HCALL := Lib.hid hcall
  clear hcall hm hbt hq hr hL hfa
  go_enter Try.func20, Try.ntmps20
  go_wp2_with fail
  refine wp_region_ord (fun W => W.cell? ⟨AB, 0, none⟩ = some (.slice pa na cna) ∧ W.cell? ⟨K, 0, none⟩ = some (.int .i64 k) ∧ W.cell? ⟨RB, 1, none⟩ = some (.slice (some ⟨ba, oa, none⟩) m ca)) 16 [(0, 0), (0, 1), (0, 2), (0, 3), (0, 4), (0, 5), (0, 6), (0, 7), (0, 10), (0, 11), (0, 12), (0, 13), (1, 8), (0, 9), (0, 14), (0, 15)] (by kernel_rfl) (by kernel_rfl) ⟨hA, hK, hR⟩ ?_
  simp only [opsOf, List.map_cons, List.map_nil, List.getElem?_cons_zero, List.getElem?_cons_succ]
  repeat (refine wpOrd_take (v := ?_) (by rfl) ?_ (fun _ _ _ h => h) ?_; rotate_left; (focus (intro W hSw; (try dsimp only at hSw); go_simp; (try with_reducible rfl))); (try simp only [Act.put, List.setIfInBounds_toArray, List.set_cons_zero, List.set_cons_succ]))
  refine wpOrd_eff (fun KK hKK => ?_)
  go_simp
  refine (HCALL.out w.drew ⟨rfl, rfl, rfl, Nat.le_refl _, fun _ _ => rfl⟩).mono ?_
  rintro e w' ⟨rfl, rfl⟩
  (try go_wp2_with fail)
  refine hKK.out _ _ ⟨hA, hK, hR⟩ ?_
  clear hKK KK
  (try simp only [Act.put, List.setIfInBounds_toArray, List.set_cons_zero, List.set_cons_succ])
  repeat (refine wpOrd_take (v := ?_) (by rfl) ?_ (fun _ _ _ h => h) ?_; rotate_left; (focus (intro W hSw; (try dsimp only at hSw); go_simp; (try with_reducible rfl))); (try simp only [Act.put, List.setIfInBounds_toArray, List.set_cons_zero, List.set_cons_succ]))
  refine wpOrd_done ?_
  clear hw0 hw1 hw2 hw3 hw4 hw5
  go_wp2
  go_ret
  exact ⟨by rw [HRES.out]; rfl, ⟨rfl, rfl, rfl, Nat.le_refl _, fun _ _ => rfl⟩⟩

set_option maxRecDepth 100000 in
set_option maxHeartbeats 4000000 in
theorem sooner_walk (pw : Option Addr) (nw cw : Nat) (pl : Option Addr) (nl cl : Nat) (pm : Option Addr) (nm cm : Nat) (st ou : Nat) (pb : Option Addr) (nb cb : Nat) (pa : Option Addr) (na ca0 : Nat) (fw fl fm fb fa : Nat → Nat) (w : World)
    (hw : ListAt w .u16 pw nw fw) (hl : ListAt w .u8 pl nl fl) (hm : ListAt w .u8 pm nm fm) (hb : ListAt w .u8 pb nb fb) (ha : ListAt w .u8 pa na fa) (hfw : ∀ j, fw j < 65536) (hfl : ∀ j, fl j < 256) (hfm : ∀ j, fm j < 256) (hfb : ∀ j, fb j < 256) (hfa : ∀ j, fa j < 256) (hst : st < 256) (hou : ou < 256) :
    Calls Try.prog 4 #[inV pw nw cw pl nl cl pm nm cm st ou, .slice pb nb cb, .slice pa na ca0] w fun e w' => e = .returned (.bool true) ∧ Below w.heap.size w w' := by
  have hrul := fun (W : World) (hW : Below w.heap.size w W) => rules_any pw nw cw pl nl cl pm nm cm st ou 3 fw fl fm W (hw.below hW) (hl.below hW) (hm.below hW) hfw hfl hfm hst hou (by omega) (by omega)
  have hknown := fun W => known_any W
  unfold inV at hrul ⊢
  obtain ⟨inf, hi, hz0, hz1, hz2⟩ := info_parts infoInt
  have HRUL := Lib.hid hrul
  have HKN := Lib.hid hknown
  have HBY := Lib.hid hb
  have HAI := Lib.hid ha
  have HFB := Lib.hid hfb
  have HFA := Lib.hid hfa
  have HI := Lib.hid hi
  have HZ0 := Lib.hid hz0
  have HZ1 := Lib.hid hz1
  have HZ2 := Lib.hid hz2
  clear hrul hknown hb ha hw hl hm hfw hfl hfm hfb hfa hi hz0 hz1 hz2
  go_enter Try.func4, Try.ntmps4
  go_wp2_with fail
  obtain ⟨w1, hw1⟩ : ∃ w1, (w.alloc (Obj.cells #[.slice pw nw cw, .slice pl nl cl, .slice pm nm cm, .int .u8 st, .int .u8 ou] 25)).alloc (Obj.cells #[.slice pa na ca0] 23) = w1 := ⟨_, rfl⟩
  have hb1 : Below w.heap.size w w1 := by rw [← hw1]; exact ((Below.refl _ _).alloc (Nat.le_refl _) _).alloc (by simp) _
  have hz1 : w1.heap.size = w.heap.size + 2 := by rw [← hw1]; simp
  have hz1' : w.heap.size + 2 ≤ w1.heap.size := Nat.le_of_eq hz1.symm
  have hab : w1.cell? ⟨w.heap.size + 1, 0, none⟩ = some (.slice pa na ca0) := by
    rw [← hw1, cell_new _ _ _ _ _ _ (by simp)]; rfl
  rw [hw1]
  refine (HRUL.out w1 hb1).mono ?_
  rintro e w2 ⟨R, L, b, c, rfl, hden, hrok, hful, hlen3, hstart, hb2, hO2, hLm⟩
  have hA2 : AimsAt w2.heap.size w2 b 0 R.aims := by have := hO2.aimsAt; rwa [hLm] at this
  have hst6 : 2 ≤ R.start ∧ R.start ≤ 6 := by omega
  have hb12 := hb1.trans (hb2.mono (by omega))
  have HDEN := Lib.hid hden
  have HROK := Lib.hid hrok
  have HFUL := Lib.hid hful
  have HA2 := Lib.hid hA2
  have HB12 := Lib.hid hb12
  have hab2 := (hb2.cell (p := ⟨w.heap.size + 1, 0, none⟩) (by simp only; omega)).trans hab
  have HAB2 := Lib.hid hab2
  have hz2 := hb2.size
  have hr3 := hrok.out
  have hr0 := hrok.out0
  clear hw1 hb1 hden hrok hful hO2 hLm hA2 hb2 hb12 hab hab2 hstart
  unfold rulesV
  go_wp2_with fail
  obtain ⟨w3, hw3⟩ : ∃ w3, w2.alloc (Obj.cells #[.int .i64 R.den, .slice (some ⟨b, 0, none⟩) R.aims.length c, .int .i64 (R.start : Int), .int .i64 R.out] 31) = w3 := ⟨_, rfl⟩
  have hb3 : Below w2.heap.size w2 w3 := by rw [← hw3]; exact (Below.refl _ _).alloc (Nat.le_refl _) _
  have hz3 : w3.heap.size = w2.heap.size + 1 := by rw [← hw3]; simp
  have hr3h : w3.heap[w2.heap.size]? = some (.cells #[.int .i64 R.den, .slice (some ⟨b, 0, none⟩) R.aims.length c, .int .i64 (R.start : Int), .int .i64 R.out] 31 (0, 0)) := by rw [← hw3]; exact World.alloc_heap_new _ _
  have hA3 : AimsAt w3.heap.size w3 b 0 R.aims := (HA2.out.below hb3).mono hb3.size
  rw [hw3]
  refine (own_any R b 0 c w3 HROK.out hA3).mono ?_
  rintro e w4 ⟨L4, b4, c4, rfl, hb4, hO4, hL4⟩
  have hA4 : AimsAt w4.heap.size w4 b4 0 R.aims := by have := hO4.aimsAt; rwa [hL4] at this
  go_wp2_with fail
  refine (table_told R b4 c4 w4 HROK.out (by rw [HDEN.out]; exact HFUL.out) hA4 _ _ (R.start + 1) rfl rfl rfl).mono ?_
  rintro e w5 ⟨bu, bl, rfl, hb5, zu, zl, cu, cl'⟩
  have hb35 := hb4.trans (hb5.mono hb4.size)
  have hz35 := hb35.size
  have HB35 := Lib.hid hb35
  have HR5 := Lib.hid ((hb35.block w2.heap.size (by omega)).trans hr3h)
  have HA5 := Lib.hid ((hA3.below hb35).mono hb35.size)
  have HAB5 := Lib.hid ((hb35.cell (p := ⟨w.heap.size + 1, 0, none⟩) (by simp only; omega)).trans ((hb3.cell (p := ⟨w.heap.size + 1, 0, none⟩) (by simp only; omega)).trans HAB2.out))
  have HB05 := Lib.hid (HB12.out.trans ((hb3.trans (hb35.mono (by omega))).mono (by have := HB12.out.size; omega)))
  have HCU := Lib.hid cu
  have HCL := Lib.hid cl'
  have x1 : w5.cell? ⟨w2.heap.size, 2, none⟩ = some (.int .i64 (R.start : Int)) := by simp [World.cell?, HR5.out]
  clear hw3 hb3 hr3h hA3 hb4 hO4 hL4 hA4 hb5 hb35 cu cl' hz1
  have hn7 : R.start + 1 ≤ 7 := by omega
  obtain ⟨n1, hn1⟩ : ∃ n1, R.start + 1 = n1 := ⟨_, rfl⟩
  have HN1 := Lib.hid hn1
  have hn1z : (R.start : Int) + 1 = (n1 : Int) := by omega
  have hne1 : ((n1 : Int) != (n1 : Int)) = false := by simp
  rw [hn1] at hn7 HCU HCL
  have hn3 : 3 ≤ n1 := by omega
  rw [hn1]
  have hnews : ∀ (j : Nat) (u : Value), ((table R true).map (Value.int .i64))[j]? = some u → w5.cell? ((⟨bl, 0, none⟩ : Addr).add j) = some u := fun j u hu => by
    have hadd : (⟨bl, 0, none⟩ : Addr).add j = ⟨bl, 0 + j, none⟩ := by unfold Addr.add; split <;> simp_all
    rw [List.getElem?_map, Option.map_eq_some_iff] at hu
    obtain ⟨y, hy, rfl⟩ := hu
    have hj : j < n1 := by have := (List.getElem?_eq_some_iff.1 hy).1; rw [table_length] at this; omega
    rw [hadd, HCL.out j hj]
    simp [numOf, hy]
  have HNEWS := Lib.hid hnews
  have hlt : (table R true).length = n1 := by rw [table_length]; exact hn1
  have HLT := Lib.hid hlt
  clear hnews hlt hn1
  have hmade : ((w5.alloc (Obj.cells #[] 3))).ownsRow w5.heap.size 3 1 (.slice (some ⟨w5.heap.size, 0, none⟩) 0 0) 0 [] := World.ownsRow_made w5 #[] 0 (Nat.le_refl _) (by decide) rfl
  have HMADE := Lib.hid hmade
  clear hmade
  go_wp2_with (at_builtin; refine wpList_append_lies _ rfl (.tmp 43) (.tmp 44) 33 rfl w5.heap.size 3 inf (.int .i64 0) 1 8 Try.underlying33 HI.out HZ0.out HZ1.out HZ2.out rfl (by decide) (.slice (some ⟨w5.heap.size, 0, none⟩) 0 0) 0 [] rfl HMADE.out ⟨bl, 0, none⟩ n1 n1 ((table R true).map (Value.int .i64)) rfl (by rw [List.length_map, HLT.out]; omega) (fun j u hu => (cell_old w5 _ _ (by unfold Addr.add; split <;> exact zl)).trans (HNEWS.out j u hu)) (by intro u hu; obtain ⟨y, _, rfl⟩ := List.mem_map.1 hu; rfl) (by omega) (by unfold maxLen; omega) (by omega) (by simp) (w5.heap.size + 1) (by simp) ?_)
  intro g6 cap6 w6 hown6 hgrow6 hat6 hlt6
  have hb56 : Below w5.heap.size w5 w6 := ((Below.refl _ w5).alloc (Nat.le_refl _) _).trans (grown_below hgrow6 (by simp) (fun k hk => by simp [Value.ownBlock] at hk; omega))
  have hc6 : ∀ x : Nat, x < n1 → w6.cell? ⟨g6, 0 + x, none⟩ = some (.int .i64 (numOf (table R true) x)) := fun x hx => by
    have hxl : x < (table R true).length := by rw [HLT.out]; exact hx
    have := hown6.cells rfl x (.int .i64 (numOf (table R true) x)) (by rw [List.getElem?_map]; simp [numOf, hxl])
    have hadd : (⟨g6, 0, none⟩ : Addr).add x = ⟨g6, 0 + x, none⟩ := by unfold Addr.add; split <;> simp_all
    rwa [hadd] at this
  have HB56 := Lib.hid hb56
  have HC6 := Lib.hid hc6
  have hz56 := hb56.size
  clear hown6 hgrow6 hat6 hb56 hc6 HMADE HNEWS
  go_wp2_with fail
  obtain ⟨w7, hw7⟩ : ∃ w7, w6.alloc (Obj.cells #[.int .i64 0] 3) = w7 := ⟨_, rfl⟩
  have hk7 : w7.heap[w6.heap.size]? = some (.cells #[.int .i64 0] 3 (0, 0)) := by rw [← hw7]; exact World.alloc_heap_new _ _
  have hb67 : Below w6.heap.size w6 w7 := by rw [← hw7]; exact (Below.refl _ _).alloc (Nat.le_refl _) _
  have HK7 := Lib.hid hk7
  have HB67 := Lib.hid hb67
  rw [hw7]
  have hlspec := fun (x : Nat) (h1 : lowest R.out ≤ x) (h2 : x ≤ R.start) => lower_spec HROK.out (s := x) h1 h2
  have huspec := fun (x : Nat) (h1 : lowest R.out ≤ x) (h2 : x ≤ R.start) => lower_le_upper HROK.out x h1 h2
  have HLS := Lib.hid hlspec
  have HUS := Lib.hid huspec
  clear hw7 hk7 hb67 hlspec huspec
  go_loopw [11, 12] (fun nv kv wr => ∃ (kk K g cp : Nat) (nums : List Int), nv = .slice (some ⟨g, 0, none⟩) n1 cp ∧ kv = .pointer (some ⟨K, 0, none⟩) ∧ kk ≤ 4 ∧ Hid (wr.heap[K]? = some (.cells #[.int .i64 kk] 3 (0, 0))) ∧ w5.heap.size ≤ K ∧ g < wr.heap.size ∧ g ≠ K ∧ Hid (∀ x : Nat, x < n1 → wr.cell? ⟨g, 0 + x, none⟩ = some (.int .i64 (numOf nums x))) ∧ Hid (NumOk nums) ∧
      Hid (∀ x : Nat, lowest R.out ≤ x → x ≤ R.start → numOf (table R true) x ≤ numOf nums x) ∧ Hid (∀ x : Int, numOf nums x ≤ maxV + (kk : Int) * whole) ∧ Hid (Below w5.heap.size w5 wr)) (fun _ kv wr => 4 - (intOf ((wr.cell? (match kv with | .pointer (some a) => a | _ => ⟨0, 0, none⟩)).getD undef)).toNat)
  case atStart =>
    refine ⟨0, w6.heap.size, g6, cap6, table R true, rfl, rfl, by omega, HK7.out, hz56, Nat.lt_of_lt_of_le hlt6 HB67.out.size, by omega, (fun x hx => ?_ : ∀ x : Nat, x < n1 → w7.cell? ⟨g6, 0 + x, none⟩ = some (.int .i64 (numOf (table R true) x))), table_ok R true, (fun _ _ _ => Int.le_refl _ : ∀ x : Nat, lowest R.out ≤ x → x ≤ R.start → numOf (table R true) x ≤ numOf (table R true) x), (fun x => ?_ : ∀ x : Int, numOf (table R true) x ≤ maxV + ((0 : Nat) : Int) * whole), HB56.out.trans (HB67.out.mono hz56)⟩
    · exact (HB67.out.cell (p := ⟨g6, 0 + x, none⟩) hlt6).trans (HC6.out x hx)
    · have hx : ∀ x : Int, numOf (table R true) x ≤ maxV := by
        intro x
        unfold numOf
        cases h : (table R true)[x.toNat]? with
        | none => simp [maxV]
        | some v =>
          have hlen := (List.getElem?_eq_some_iff.1 h).1
          rw [table_length] at hlen
          by_cases hl : lowest R.out ≤ (x.toNat : Int)
          · have := (HLS.out x.toNat hl (by omega)).2.1
            simp only [numOf, Int.toNat_natCast, h, Option.getD_some] at this
            simpa using this
          · have := table_low R true x.toNat (by omega)
            simp only [numOf, Int.toNat_natCast, h, Option.getD_some] at this
            simp [this, maxV]
      have := hx x
      simpa using this
  case round =>
    obtain ⟨kk, K, g, cp, nums, rfl, rfl, hk4, hK, hKz, hgz, hgK, hcl, hno, hlow, hup, hbr⟩ := hrel
    clear HK7 HB67 HC6 HB56 x1 hne1
    have k0 : wr.cell? ⟨K, 0, none⟩ = some (.int .i64 kk) := cell_of_one hK.out
    by_cases hk : kk < 4
    · obtain ⟨wo, rfl⟩ : ∃ wo : World, wo = wr := ⟨_, rfl⟩
      have hkz : (kk : Int) < 4 := by omega
      have hlo := lowest_bd R.out
      have hr2 : wo.heap[w2.heap.size]? = _ := (hbr.out.block _ (by omega)).trans HR5.out
      have x2 : wo.cell? ⟨w2.heap.size, 2, none⟩ = some (.int .i64 (R.start : Int)) := by simp [World.cell?, hr2]
      have x3 : wo.cell? ⟨w2.heap.size, 3, none⟩ = some (.int .i64 R.out) := by simp [World.cell?, hr2]
      have hlc := fun W => lowestL_any R.out (lowest R.out) W rfl
      obtain ⟨lo, hlo'⟩ : ∃ lo : Nat, (lowest R.out).toNat = lo := ⟨_, rfl⟩
      have hloz : lowest R.out = (lo : Int) := by omega
      rw [hloz] at hlc hlo
      have HLC := Lib.hid hlc
      have HLZ := Lib.hid hloz
      have HR2 := Lib.hid hr2
      have hbz := hbr.out.size
      clear hlc hloz hlo' hr2
      go_wp2_with (at_make; refine wpList_make_full _ rfl _ _ 33 rfl wo.heap.size 3 inf (.int .i64 0) 1 Try.underlying33 HI.out HZ0.out HZ1.out .i64 .i64 _ _ n1 rfl rfl rfl rfl (by rw [HZ2.out]; omega) (by unfold maxLen; omega) (by omega) ?_)
      intro w8 hown hgrow
      have hz8 := hgrow.size
      have hb8 : Below wo.heap.size wo w8 := grown_below hgrow (Nat.le_refl _) (fun k hk => by simp at hk)
      have y3 := (hb8.cell (p := ⟨w2.heap.size, 3, none⟩) (by simp only; omega)).trans x3
      have HOWN := Lib.hid hown
      have HB8 := Lib.hid hb8
      clear hown hgrow hb8 x2 x3 k0
      go_wp2_with (go_at_call 15; refine (HLC.out _).mono ?_; rintro e w' ⟨rfl, rfl⟩)
      go_loopw [14] (fun sv wr => ∃ (x : Nat) (ys : List Int), sv = .int .i64 x ∧ lo ≤ x ∧ x ≤ n1 ∧ Hid (ys.length = n1) ∧ Hid (wr.ownsRow wo.heap.size 3 1 (.slice (some ⟨wo.heap.size, 0, none⟩) n1 n1) n1 (ys.map (Value.int .i64))) ∧ Hid (∀ y ∈ ys, 0 ≤ y ∧ y ≤ maxV + ((kk + 1 : Nat) : Int) * whole) ∧ Hid (∀ y : Nat, lo ≤ y → y < x → numOf (table R true) y ≤ getI ys y) ∧ Hid (Below wo.heap.size wo wr) ∧ wo.heap.size < wr.heap.size) (fun sv _ => n1 + 1 - (intOf sv).toNat)
      case atStart =>
        refine ⟨lo, List.replicate n1 0, rfl, Nat.le_refl _, by omega, (by simp : (List.replicate n1 (0 : Int)).length = n1), ?_, (fun y hy => by rw [List.eq_of_mem_replicate hy]; unfold maxV whole; omega : ∀ y ∈ List.replicate n1 (0 : Int), 0 ≤ y ∧ y ≤ maxV + ((kk + 1 : Nat) : Int) * whole), (fun y h1 h2 => by omega : ∀ y : Nat, lo ≤ y → y < lo → numOf (table R true) y ≤ getI (List.replicate n1 0) y), HB8.out, ?_⟩
        · show World.ownsRow _ _ _ _ _ _ _
          rw [List.map_replicate, ← toList_madeCells_one]
          exact HOWN.out
        · exact (HOWN.out.lt _ rfl).2
      case round =>
        obtain ⟨x, ys, rfl, hlx, hx1, hyl, hyo, hyb, hyv, hbr2, hzr⟩ := hrel
        clear HOWN HB8 y3 hz8
        have hrr : wr.heap[w2.heap.size]? = _ := (hbr2.out.block _ (by omega)).trans HR2.out
        have x0 : wr.cell? ⟨w2.heap.size, 0, none⟩ = some (.int .i64 R.den) := by simp [World.cell?, hrr]
        have x1 : wr.cell? ⟨w2.heap.size, 1, none⟩ = some (.slice (some ⟨b, 0, none⟩) R.aims.length c) := by simp [World.cell?, hrr]
        have x2 : wr.cell? ⟨w2.heap.size, 2, none⟩ = some (.int .i64 (R.start : Int)) := by simp [World.cell?, hrr]
        have x3 : wr.cell? ⟨w2.heap.size, 3, none⟩ = some (.int .i64 R.out) := by simp [World.cell?, hrr]
        by_cases hxs : x ≤ R.start
        · have hxz : (x : Int) ≤ (R.start : Int) := by omega
          have hb5r : Below w5.heap.size w5 wr := hbr.out.trans (hbr2.out.mono hbz)
          have hbwr : Below w.heap.size w wr := HB05.out.trans (hb5r.mono HB05.out.size)
          have hzw5 := HB05.out.size
          have hbzr := hbr2.out.size
          have hKh := (hbr2.out.block K (lt_of_block hK.out)).trans hK.out
          have hKr : wr.cell? ⟨K, 0, none⟩ = some (.int .i64 kk) := cell_of_one hKh
          have hABr := (hb5r.cell (p := ⟨w.heap.size + 1, 0, none⟩) (by simp only; omega)).trans HAB5.out
          have htr : ∀ (d : Nat) (y : Int) a, lowest R.out ≤ y → y ≤ x → R.aims[aimS R.aims.length na fa kk d y]? = some a → Tr a.2 24 (trOf R (aimS R.aims.length na fa kk) (byteP nb fb) d y) := fun d y a _ _ ha => by
            unfold trOf
            rw [ha]
            exact truth_tr (by have := (HROK.out.aims a (List.mem_of_getElem? ha)); rwa [HDEN.out] at this) _ _
          have haim : ∀ d y, aimS R.aims.length na fa kk d y < R.aims.length := fun d y => by unfold aimS; exact Nat.mod_lt _ HROK.out.len1
          have hsn := sooner HROK.out HDEN.out (s := x) (by rw [HLZ.out]; omega) hxs haim htr (fun y hy hyx => by
            obtain ⟨y, rfl⟩ : ∃ m : Nat, y = m := ⟨y.toNat, by have := HLZ.out; omega⟩
            exact hlow.out y hy (by omega)) 3 x (by rw [HLZ.out]; omega) (Int.le_refl _)
          have hsb := stepV_bd HROK.out HDEN.out (visits := nums) (s := x) (c := maxV + (kk : Int) * whole) (by unfold maxV whole; omega) (by rw [HLZ.out]; omega) (up := 1) (.inr rfl) htr (fun y _ _ => ⟨(numOf_bd hno.out y).1, hup.out y⟩) 3 x (by rw [HLZ.out]; omega) (Int.le_refl _)
          obtain ⟨l1, l2, l3, _⟩ := HLS.out x (by rw [HLZ.out]; omega) hxs
          have lu := HUS.out x (by rw [HLZ.out]; omega) hxs
          have hvis := visit_any R b 0 c x g 0 n1 cp nums 20 #[.pointer (some ⟨w.heap.size + 1, 0, none⟩), .pointer (some ⟨K, 0, none⟩), .pointer (some ⟨w2.heap.size, 0, none⟩)] (aimS R.aims.length na fa kk) pb nb cb fb 1 wr (enters_of Try.func20 (by kernel_rfl) rfl) HROK.out HDEN.out
            ((HA5.out.below hb5r).mono hb5r.size) (by rw [HLZ.out]; omega) (by omega) (by omega) (by have := HN1.out; omega) (by omega) (fun y hy => (hbr2.out.cell (p := ⟨g, 0 + y, none⟩) hgz).trans (hcl.out y hy)) hno.out (HBY.out.below hbwr) HFB.out (.inr rfl) haim
            (fun d y W _ hd3 _ hyx _ hW => sooner1_any R b 0 c (w.heap.size + 1) K w2.heap.size pa na ca0 fa kk d y W HROK.out (by omega) hd3 (by omega) ((hW.cell (p := ⟨w.heap.size + 1, 0, none⟩) (by simp only; omega)).trans hABr) ((hW.cell (p := ⟨K, 0, none⟩) (lt_of_block hKh)).trans hKr) ((hW.cell (p := ⟨w2.heap.size, 1, none⟩) (by simp only; omega)).trans x1) (HAI.out.below (hbwr.trans (hW.mono hbwr.size))) HFA.out)
          obtain ⟨sv, hsv⟩ : ∃ sv, stepV R nums x (aimS R.aims.length na fa kk) (trOf R (aimS R.aims.length na fa kk) (byteP nb fb)) 1 3 x = sv := ⟨_, rfl⟩
          rw [hsv] at hsn hsb hvis
          obtain ⟨lx, hlx'⟩ : ∃ lx, numOf (table R true) x = lx := ⟨_, rfl⟩
          obtain ⟨ux, hux'⟩ : ∃ ux, numOf (table R false) x = ux := ⟨_, rfl⟩
          rw [hlx'] at l1 l2 l3 lu
          rw [hux'] at lu
          have hxn : x < n1 := by have := HN1.out; omega
          have hxnz : (x : Int) < (n1 : Int) := by omega
          have cl0 : wr.cell? ⟨bl, x, none⟩ = some (.int .i64 lx) := by
            have := (hb5r.cell (p := ⟨bl, 0 + x, none⟩) zl).trans (HCL.out x hxn)
            rw [Nat.zero_add, hlx'] at this
            exact this
          have cu0 : wr.cell? ⟨bu, x, none⟩ = some (.int .i64 ux) := by
            have := (hb5r.cell (p := ⟨bu, 0 + x, none⟩) zu).trans (HCU.out x hxn)
            rw [Nat.zero_add, hux'] at this
            exact this
          have hge : lx ≤ 1000000 + sv := by unfold whole at l3; omega
          have hg1 : decide (1000000 + sv < lx) = false := by simp; omega
          have hg2 : decide (ux < lx) = false := by simp; omega
          have hg3 : decide (lx < 1000000) = false := by unfold whole at l1; simp; omega
          have hnb : 0 ≤ 1000000 + sv ∧ 1000000 + sv ≤ maxV + ((kk + 1 : Nat) : Int) * whole := by
            rw [Int.natCast_add, Int.add_mul]
            unfold whole at hsb ⊢
            omega
          have HVIS := Lib.hid hvis
          have HLX := Lib.hid hlx'
          have HNB := Lib.hid hnb
          have HB5R := Lib.hid hb5r
          have HGE := Lib.hid hge
          unfold whole at HVIS
          clear hvis hsv hlx' hux' hnb hb5r hbwr hKh hKr hABr htr haim hsn hsb l1 l2 l3 lu hrr hge
          go_wp2_with fail
          refine HVIS.out.mono ?_
          rintro e w9 ⟨rfl, hb9⟩
          have c9 := (hb9.cell (p := ⟨bl, x, none⟩) (by simp only; omega)).trans cl0
          have d9 := (hb9.cell (p := ⟨bu, x, none⟩) (by simp only; omega)).trans cu0
          have hz9 := hb9.size
          have HB9 := Lib.hid hb9
          clear hb9 cl0 cu0 x0 x1 x2 x3
          go_wp2_with fail
          refine wp_region_ord (fun W => W.cell? ⟨bl, x, none⟩ = some (.int .i64 lx) ∧ W.cell? ⟨bu, x, none⟩ = some (.int .i64 ux)) 24 [(0, 0), (0, 1), (0, 2), (0, 3), (0, 4), (0, 5), (0, 6), (0, 7), (0, 8), (0, 9), (0, 10), (0, 11), (0, 12), (0, 13), (0, 14), (0, 15), (0, 16), (0, 17), (0, 18), (0, 19), (0, 20), (0, 21), (0, 22), (0, 23)] (by kernel_rfl) (by kernel_rfl) ⟨c9, d9⟩ ?_
          simp only [opsOf, List.map_cons, List.map_nil, List.getElem?_cons_zero, List.getElem?_cons_succ]
          repeat (refine wpOrd_take (v := ?_) (by rfl) ?_ (fun _ _ _ h => h) ?_; rotate_left; (focus (intro W hSw; (try dsimp only at hSw); go_simp; (try with_reducible rfl))); (try simp only [Act.put, List.setIfInBounds_toArray, List.set_cons_zero, List.set_cons_succ]))
          refine wpOrd_done ?_
          have own9 : w9.ownsRow wo.heap.size 3 1 (.slice (some ⟨wo.heap.size, 0, none⟩) n1 n1) n1 (ys.map (Value.int .i64)) := owns_same hyo.out fun gg hg => HB9.out.block gg (by simp [Value.ownBlock] at hg; omega)
          have hxl : x < ys.length := by rw [hyl.out]; exact hxn
          have hcx : w9.cell? ⟨wo.heap.size, x, none⟩ = some (.int .i64 (getI ys x)) := by
            have := own9.cells rfl x (.int .i64 (getI ys x)) (by rw [List.getElem?_map]; simp [getI, hxl])
            have hadd : (⟨wo.heap.size, 0, none⟩ : Addr).add x = ⟨wo.heap.size, x, none⟩ := by unfold Addr.add; split <;> simp_all
            rwa [hadd] at this
          have hfx : w9.frozen? ⟨wo.heap.size, x, none⟩ = false := World.ownsRow.frozenAt own9 x
          have hst := (World.ownsRow.stored (w := w9) own9 x (.int .i64 (1000000 + sv))).1
          have HST := Lib.hid hst
          clear hst own9 hg1 hg2 hg3 c9 d9
          go_wp2
          go_roundw
          case rel =>
            refine ⟨x + 1, ys.set x (1000000 + sv), by go_num, by omega, by omega, (by rw [List.length_set]; exact hyl.out : (ys.set x (1000000 + sv)).length = n1), ?_, (fun y hy => ?_ : ∀ y ∈ ys.set x (1000000 + sv), 0 ≤ y ∧ y ≤ maxV + ((kk + 1 : Nat) : Int) * whole), (fun y h1 h2 => ?_ : ∀ y : Nat, lo ≤ y → y < x + 1 → numOf (table R true) y ≤ getI (ys.set x (1000000 + sv)) y), ?_, by simp [World.setCell]; omega⟩
            · show World.ownsRow _ _ _ _ _ _ _
              rw [List.map_set]
              exact HST.out
            · rcases List.mem_or_eq_of_mem_set hy with hy | rfl
              · exact hyb.out y hy
              · exact HNB.out
            · rw [getI_set _ _ _ _ hxl]
              by_cases hyx : y = x
              · rw [if_pos hyx, hyx, HLX.out]
                exact HGE.out
              · rw [if_neg hyx]
                exact hyv.out y h1 (by omega)
            · exact hbr2.out.trans ((HB9.out.mono (by omega)).trans (((Below.refl _ w9).setCell (p := ⟨wo.heap.size, x, none⟩) (Nat.le_refl _) _).trans ⟨rfl, rfl, rfl, Nat.le_refl _, fun _ _ => rfl⟩))
          case measure => simp [intOf]; omega
        · have hxe : x = n1 := by have := HN1.out; omega
          have hxn : ¬ (x : Int) ≤ (R.start : Int) := by omega
          have hKh := (hbr2.out.block K (lt_of_block hK.out)).trans hK.out
          have hKr : wr.cell? ⟨K, 0, none⟩ = some (.int .i64 kk) := cell_of_one hKh
          have HXE := Lib.hid hxe
          have hbzr := hbr2.out.size
          clear hxe hKh x0 x1 x3 hrr
          go_wp2
          go_roundw
          case rel =>
            refine ⟨kk + 1, wr.heap.size, wo.heap.size, n1, ys, rfl, rfl, by omega, World.alloc_heap_new wr _, by omega, by simp; omega, by omega, (fun y hy => ?_ : ∀ y : Nat, y < n1 → (wr.alloc (Obj.cells #[.int .i64 ((kk : Int) + 1)] 3)).cell? ⟨wo.heap.size, 0 + y, none⟩ = some (.int .i64 (numOf ys y))), (fun y hy => ⟨(hyb.out y hy).1, ?_⟩ : ∀ y ∈ ys, 0 ≤ y ∧ y ≤ never), (fun y h1 h2 => ?_ : ∀ y : Nat, lowest R.out ≤ y → y ≤ R.start → numOf (table R true) y ≤ numOf ys y), (fun y => ?_ : ∀ y : Int, numOf ys y ≤ maxV + ((kk + 1 : Nat) : Int) * whole), hbr.out.trans ((hbr2.out.trans ((Below.refl _ wr).alloc (by omega) _)).mono hbz)⟩
            · rw [cell_old wr _ _ (by simp only; omega), Nat.zero_add]
              have hyl2 : y < ys.length := by rw [hyl.out]; exact hy
              have := hyo.out.cells rfl y (.int .i64 (numOf ys y)) (by rw [List.getElem?_map]; simp [numOf, hyl2])
              have hadd : (⟨wo.heap.size, 0, none⟩ : Addr).add y = ⟨wo.heap.size, y, none⟩ := by unfold Addr.add; split <;> simp_all
              rwa [hadd] at this
            · have := (hyb.out y hy).2
              rw [Int.natCast_add, Int.add_mul] at this
              unfold maxV whole at this
              unfold never
              omega
            · have := hyv.out y (by have := HLZ.out; omega) (by have := HXE.out; have := HN1.out; omega)
              simpa [getI, numOf] using this
            · unfold numOf
              cases h : ys[y.toNat]? with
              | none => simp only [Option.getD_none]; unfold maxV whole; omega
              | some v => exact (hyb.out v (List.mem_of_getElem? h)).2
          case measure =>
            have e1 : (wr.alloc (Obj.cells #[.int .i64 ((kk : Int) + 1)] 3)).cell? ⟨wr.heap.size, 0, none⟩ = some (.int .i64 ((kk : Int) + 1)) := by rw [cell_new wr _ _ _ _ _ rfl]; rfl
            have e2 : wo.cell? ⟨K, 0, none⟩ = some (.int .i64 kk) := cell_of_one hK.out
            simp only [e1, e2, Option.getD_some, intOf]
            omega
    · have hkz : ¬ (kk : Int) < 4 := by omega
      go_wp2_with fail
      refine (HKN.out wr).mono ?_
      rintro e w9 ⟨rfl, hb9⟩
      have HB9 := Lib.hid (HB05.out.trans ((hbr.out.trans (hb9.mono hbr.out.size)).mono HB05.out.size))
      clear hb9
      go_wp2
      go_ret
      exact ⟨rfl, HB9.out⟩

end Go.Proofs.Ytnaehbgmfajdjaa
