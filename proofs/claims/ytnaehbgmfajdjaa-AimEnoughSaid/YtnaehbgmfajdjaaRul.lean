/- beds and rules of the statements' package: valid rules out of bytes. -/
import Derived.Laws.OwnMore
import Derived.Deep.DeepCutAuto
import Derived.Deep.RegionWith
import Derived.IntWalk
import Derived.Deep.Onto
import Derived.Test.YtnaehbgmfajdjaaLay
import Derived.Test.YtnaehbgmfajdjaaLawA
import Derived.Test.YtnaehbgmfajdjaaBit
import Derived.Test.YtnaehbgmfajdjaaAll
namespace Go.Proofs.Ytnaehbgmfajdjaa
open Go.RowKit AimP

def bedsV : Array Value := #[.int .i64 0, .int .i64 101, .int .i64 102, .int .i64 103, .int .i64 105, .int .i64 125, .int .i64 201, .int .i64 202, .int .i64 204, .int .i64 301]

theorem beds_any (w : World) : Calls Try.prog 49 #[] w fun e w' => e = .returned (.slice (some ⟨w.heap.size, 0, none⟩) 10 10) ∧ w' = w.alloc (.cells #[.int .i64 0, .int .i64 101, .int .i64 102, .int .i64 103, .int .i64 105, .int .i64 125, .int .i64 201, .int .i64 202, .int .i64 204, .int .i64 301] 53) := by
  go_enter Try.func49, Try.ntmps49
  go_wp2
  go_ret
  exact ⟨rfl, rfl⟩

/-- What an input of the statements looks like: three lists and two bytes. -/
def inV (pw : Option Addr) (nw cw : Nat) (pl : Option Addr) (nl cl : Nat) (pm : Option Addr) (nm cm : Nat) (st ou : Nat) : Value :=
  .agg #[.slice pw nw cw, .slice pl nl cl, .slice pm nm cm, .int .u8 st, .int .u8 ou]

/-- The codes of all beds. -/
def codes : List Int := [0, 101, 102, 103, 105, 125, 201, 202, 204, 301]

theorem beds_code (k : Nat) (hk : k < 10) : ∃ c : Int, codes[k]? = some c ∧ bedsV[k]? = some (.int .i64 c) ∧ c ∈ codes := by
  have h : k = 0 ∨ k = 1 ∨ k = 2 ∨ k = 3 ∨ k = 4 ∨ k = 5 ∨ k = 6 ∨ k = 7 ∨ k = 8 ∨ k = 9 := by omega
  rcases h with rfl | rfl | rfl | rfl | rfl | rfl | rfl | rfl | rfl | rfl <;> exact ⟨_, rfl, rfl, by decide⟩

theorem codes_lt (i j : Nat) (c d : Int) (h : i < j) (hi : codes[i]? = some c) (hj : codes[j]? = some d) : c < d := by
  have hj10 : j < 10 := (List.getElem?_eq_some_iff.1 hj).1
  have h1 : i = 0 ∨ i = 1 ∨ i = 2 ∨ i = 3 ∨ i = 4 ∨ i = 5 ∨ i = 6 ∨ i = 7 ∨ i = 8 := by omega
  have h2 : j = 1 ∨ j = 2 ∨ j = 3 ∨ j = 4 ∨ j = 5 ∨ j = 6 ∨ j = 7 ∨ j = 8 ∨ j = 9 := by omega
  rcases h1 with rfl | rfl | rfl | rfl | rfl | rfl | rfl | rfl | rfl <;> rcases h2 with rfl | rfl | rfl | rfl | rfl | rfl | rfl | rfl | rfl <;> simp [codes] at hi hj <;> omega

/-- What is so of the beds so far: those from number q on are done. -/
structure BInv (i3 q : Nat) (bl : List PBed) : Prop where
  q10 : q ≤ 10
  len : bl.length ≤ 5
  small : ∀ x ∈ bl, 0 ≤ x.low ∧ x.low ≤ x.high ∧ x.high ≤ 24
  lows : lows bl ≤ 24
  inCodes : ∀ x ∈ bl, x.bed ∈ codes
  above : ∀ x ∈ bl, ∀ (j : Nat) (c : Int), j < q → codes[j]? = some c → c < x.bed
  asc : ∀ (i : Nat) x y, bl[i]? = some x → bl[i + 1]? = some y → x.bed < y.bed
  full : q ≤ 6 + i3 → bl ≠ []

theorem highs_le : ∀ bl : List PBed, (∀ x ∈ bl, 0 ≤ x.low ∧ x.low ≤ x.high ∧ x.high ≤ 24) → 0 ≤ highs bl ∧ highs bl ≤ bl.length * 24
  | [], _ => by simp [highs]
  | b :: l, h => by
    have := highs_le l fun x hx => h x (List.mem_cons_of_mem _ hx)
    have := h b (List.mem_cons_self ..)
    simp only [highs, List.length_cons]
    omega

/-- One bed more. -/
theorem BInv.cons {i3 k : Nat} {bl : List PBed} (h : BInv i3 (k + 1) bl) (hl : bl.length < 5) {c lo hi : Int} (hc : codes[k]? = some c) (h0 : 0 ≤ lo) (h1 : lo ≤ hi) (h2 : hi ≤ 24) (hs : lo + AimP.lows bl ≤ 24) : BInv i3 k (⟨c, lo, hi⟩ :: bl) := by
  have hq := h.q10
  refine ⟨by omega, by simp; omega, fun x hx => ?_, by simpa [AimP.lows] using hs, fun x hx => ?_, fun x hx j d hj hd => ?_, fun i x y hx hy => ?_, fun _ => by simp⟩
  · rcases List.mem_cons.1 hx with rfl | hx
    · exact ⟨h0, h1, h2⟩
    · exact h.small x hx
  · rcases List.mem_cons.1 hx with rfl | hx
    · exact List.mem_of_getElem? hc
    · exact h.inCodes x hx
  · rcases List.mem_cons.1 hx with rfl | hx
    · exact codes_lt j k d c hj hd hc
    · exact h.above x hx j d (by omega) hd
  · cases i with
    | zero =>
      simp at hx hy
      subst hx
      exact h.above y (List.mem_of_getElem? hy) k c (by omega) hc
    | succ i => exact h.asc i x y (by simpa using hx) (by simpa using hy)

/-- No bed of this number. -/
theorem BInv.skip {i3 k : Nat} {bl : List PBed} (h : BInv i3 (k + 1) bl) (hk : k ≠ 6 + i3) : BInv i3 k bl :=
  ⟨by have := h.q10; omega, h.len, h.small, h.lows, h.inCodes, fun x hx j d hj hd => h.above x hx j d (by omega) hd, h.asc, fun hq => h.full (by omega)⟩

theorem codes_ok (c : Int) (h : c ∈ codes) : 0 ≤ c ∧ c ≤ 425 ∧ (c = 0 ∨ isBedB c = true) := by
  simp only [codes, List.mem_cons, List.not_mem_nil, or_false] at h
  rcases h with rfl | rfl | rfl | rfl | rfl | rfl | rfl | rfl | rfl | rfl <;> decide

theorem aimFull_of {i3 q at0 : Nat} {bl : List PBed} (h : BInv i3 q bl) (hne : bl ≠ []) (hat : at0 = 201 ∨ at0 = 202 ∨ at0 = 204) (hh : 24 ≤ highs bl) : AimFull 24 ((at0 : Int), bl) := by
  have hl := h.len
  refine ⟨⟨List.length_pos_iff.2 hne, by simp only; omega, h.small, h.lows, hh, fun x hx => ⟨(codes_ok _ (h.inCodes x hx)).1, (codes_ok _ (h.inCodes x hx)).2.1⟩⟩, by simp only; omega, ?_, fun x hx => (codes_ok _ (h.inCodes x hx)).2.2, h.asc⟩
  rcases hat with rfl | rfl | rfl
  · show isBedB 201 = true; decide
  · show isBedB 202 = true; decide
  · show isBedB 204 = true; decide

/-- The first bed takes what is missing. -/
theorem BInv.fill {i3 q : Nat} {x : PBed} {bl : List PBed} (h : BInv i3 q (x :: bl)) (hh : highs (x :: bl) < 24) : BInv i3 q (⟨x.bed, x.low, x.high + 24 - highs (x :: bl)⟩ :: bl) ∧ 24 ≤ highs (⟨x.bed, x.low, x.high + 24 - highs (x :: bl)⟩ :: bl) ∧ 0 ≤ x.high + 24 - highs (x :: bl) ∧ x.high + 24 - highs (x :: bl) ≤ 24 := by
  have hx := h.small x (List.mem_cons_self ..)
  have hb : ∀ l : List PBed, (∀ y ∈ l, 0 ≤ y.low ∧ y.low ≤ y.high ∧ y.high ≤ 24) → 0 ≤ highs l := by
    intro l
    induction l with
    | nil => intro _; simp [highs]
    | cons b l ih =>
      intro hl
      have := ih fun y hy => hl y (List.mem_cons_of_mem _ hy)
      have := hl b (List.mem_cons_self ..)
      simp only [highs]; omega
  have hr := hb bl fun y hy => h.small y (List.mem_cons_of_mem _ hy)
  have hlow := h.lows
  simp only [highs] at hh ⊢
  simp only [AimP.lows] at hlow
  refine ⟨⟨h.q10, by simpa using h.len, fun y hy => ?_, by simpa only [AimP.lows] using hlow, fun y hy => ?_, fun y hy => ?_, fun i y z hy hz => ?_, fun _ => by simp⟩, by omega, by omega, by omega⟩
  · rcases List.mem_cons.1 hy with rfl | hy
    · simp only; omega
    · exact h.small y (List.mem_cons_of_mem _ hy)
  · rcases List.mem_cons.1 hy with rfl | hy
    · exact h.inCodes x (List.mem_cons_self ..)
    · exact h.inCodes y (List.mem_cons_of_mem _ hy)
  · rcases List.mem_cons.1 hy with rfl | hy
    · exact h.above x (List.mem_cons_self ..)
    · exact h.above y (List.mem_cons_of_mem _ hy)
  · cases i with
    | zero =>
      simp at hy hz
      subst hy
      exact h.asc 0 x z (by simp) (by simpa using hz)
    | succ i => exact h.asc (i + 1) y z (by simpa using hy) (by simpa using hz)

/-- Where they lie. -/
structure BMem (N A C : Nat) (at0 : Nat) (wo wr : World) (p : Option Addr) (cap : Nat) (bl : List PBed) : Prop where
  below : Below N wo wr
  aim : wr.heap[A]? = some (.cells #[.int .i64 at0, .slice p bl.length cap] 56 (0, 0))
  all : wr.heap[C]? = some (.cells bedsV 53 (0, 0))
  own : wr.ownsRow N 61 3 (.slice p bl.length cap) bl.length (bedCells bl)
  na : (Value.slice p bl.length cap).ownBlock ≠ some A
  nc : (Value.slice p bl.length cap).ownBlock ≠ some C
  nil : bl = [] → p = none ∧ cap = 0

/-- Which beds an aim has: bits; one bit is set. -/
def R8 (i3 : Nat) (v : Value) : Prop := ∃ W : Int, v = .int .u16 W ∧ bits BinOp.and IntKind.u16 (W / 2 ^ (6 + i3)) 1 = 1

/-- What stands behind an aim's first statement: the aim, and all beds. -/
def R9 (wc : World) (a al su hi : Value) (wx : World) : Prop := ∃ A C at0 : Nat, a = .pointer (some ⟨A, 0, none⟩) ∧ al = .slice (some ⟨C, 0, none⟩) 10 10 ∧ su = .int .i64 0 ∧ hi = .int .i64 0 ∧ Hid (at0 = 201 ∨ at0 = 202 ∨ at0 = 204) ∧ Hid (Below wc.heap.size wc wx) ∧
            Hid (wx.heap[A]? = some (.cells #[.int .i64 at0, .slice none 0 0] 56 (0, 0))) ∧ Hid (wx.heap[C]? = some (.cells bedsV 53 (0, 0))) ∧ wc.heap.size ≤ A ∧ wc.heap.size ≤ C ∧ A < wx.heap.size ∧ C < wx.heap.size ∧ A ≠ C

set_option maxRecDepth 100000 in
set_option maxHeartbeats 4000000 in
theorem rules_any (pw : Option Addr) (nw cw : Nat) (pl : Option Addr) (nl cl : Nat) (pm : Option Addr) (nm cm : Nat) (st ou most : Nat) (fw fl fm : Nat → Nat) (w : World)
    (hw : ListAt w .u16 pw nw fw) (hl : ListAt w .u8 pl nl fl) (hm : ListAt w .u8 pm nm fm) (hfw : ∀ j, fw j < 65536) (hfl : ∀ j, fl j < 256) (hfm : ∀ j, fm j < 256) (hst : st < 256) (hou : ou < 256) (hmo : 1 ≤ most) (hmo2 : most ≤ 20) :
    Calls Try.prog 12 #[inV pw nw cw pl nl cl pm nm cm st ou, .int .i64 most] w
      fun e w' => ∃ (R : Rules) (L : List Laid) (b c : Nat), e = .returned (rulesV R b 0 c) ∧ R.den = 24 ∧ RulesOk R ∧ LawFull 24 R.aims ∧ R.aims.length ≤ most ∧ R.start = 2 + st % 5 ∧ Below w.heap.size w w' ∧ OwnLaw w.heap.size w' (.slice (some ⟨b, 0, none⟩) R.aims.length c) L ∧ L.map (·.1) = R.aims := by
  unfold inV
  have hnw := hw.len
  have hsu : ((st : Int) % 5) = ((st % 5 : Nat) : Int) := by simp
  have hst5 : st % 5 < 5 := Nat.mod_lt _ (by omega)
  have hou3 : ou % 3 < 3 := Nat.mod_lt _ (by omega)
  have hoi : ((ou : Int) % 3) = ((ou % 3 : Nat) : Int) := by simp
  obtain ⟨s5, hs5⟩ : ∃ s5, st % 5 = s5 := ⟨_, rfl⟩
  obtain ⟨o3, ho3⟩ : ∃ o3, ou % 3 = o3 := ⟨_, rfl⟩
  rw [hs5] at hsu hst5 ⊢
  rw [ho3] at hoi hou3
  have HW := Lib.hid hw
  have HL := Lib.hid hl
  have HM := Lib.hid hm
  have HFW := Lib.hid hfw
  have HFL := Lib.hid hfl
  have HFM := Lib.hid hfm
  clear hw hl hm hfw hfl hfm hs5 ho3
  go_enter Try.func12, Try.ntmps12
  go_wp2_with fail
  obtain ⟨wa, hwa⟩ : ∃ wa, ((w.alloc (Obj.cells #[.slice pw nw cw, .slice pl nl cl, .slice pm nm cm, .int .u8 st, .int .u8 ou] 25)).alloc (Obj.cells #[.int .i64 0, .slice none 0 0, .int .i64 0, .int .i64 0] 31)).alloc (Obj.cells #[.int .i64 24, .slice none 0 0, .int .i64 (2 + (s5 : Int)), .int .i64 o3] 31) = wa := ⟨_, rfl⟩
  have hB : Below w.heap.size w wa := by rw [← hwa]; exact (((Below.refl _ _).alloc (Nat.le_refl _) _).alloc (by simp) _).alloc (by simp <;> omega) _
  have za : wa.heap.size = w.heap.size + 3 := by rw [← hwa]; simp
  have o0 : wa.heap[w.heap.size]? = some (.cells #[.slice pw nw cw, .slice pl nl cl, .slice pm nm cm, .int .u8 st, .int .u8 ou] 25 (0, 0)) := by
    rw [← hwa, Below.heap_alloc _ _ _ (by simp <;> omega), Below.heap_alloc _ _ _ (by simp), World.alloc_heap_new]
  have o1 : wa.heap[w.heap.size + 1]? = some (.cells #[.int .i64 0, .slice none 0 0, .int .i64 0, .int .i64 0] 31 (0, 0)) := by
    rw [← hwa, Below.heap_alloc _ _ _ (by simp)]
    have := World.alloc_heap_new (w.alloc (Obj.cells #[.slice pw nw cw, .slice pl nl cl, .slice pm nm cm, .int .u8 st, .int .u8 ou] 25)) (Obj.cells #[.int .i64 0, .slice none 0 0, .int .i64 0, .int .i64 0] 31)
    rwa [World.size_alloc] at this
  have o2 : wa.heap[w.heap.size + 2]? = some (.cells #[.int .i64 24, .slice none 0 0, .int .i64 (2 + (s5 : Int)), .int .i64 o3] 31 (0, 0)) := by
    have := World.alloc_heap_new ((w.alloc (Obj.cells #[.slice pw nw cw, .slice pl nl cl, .slice pm nm cm, .int .u8 st, .int .u8 ou] 25)).alloc (Obj.cells #[.int .i64 0, .slice none 0 0, .int .i64 0, .int .i64 0] 31)) (Obj.cells #[.int .i64 24, .slice none 0 0, .int .i64 (2 + (s5 : Int)), .int .i64 o3] 31)
    rw [World.size_alloc, World.size_alloc, hwa] at this
    exact this
  have HB := Lib.hid hB
  rw [hwa]
  have HO0 := Lib.hid o0
  have HO1 := Lib.hid o1
  have HO2 := Lib.hid o2
  clear hwa hB o0 o1 o2 hsu hoi
  go_loopw [6, 7] (fun nn ii wr => ∃ (i n : Nat) (v : Value) (L : List Laid), ii = .int .i64 i ∧ nn = .int .i64 n ∧ i ≤ most ∧ n ≤ 5 * i ∧ Hid (Below w.heap.size w wr) ∧
      Hid (wr.heap[w.heap.size]? = some (.cells #[.slice pw nw cw, .slice pl nl cl, .slice pm nm cm, .int .u8 st, .int .u8 ou] 25 (0, 0))) ∧ Hid (wr.heap[w.heap.size + 1]? = some (.cells #[.int .i64 0, .slice none 0 0, .int .i64 0, .int .i64 0] 31 (0, 0))) ∧
      Hid (wr.heap[w.heap.size + 2]? = some (.cells #[.int .i64 24, v, .int .i64 (2 + (s5 : Int)), .int .i64 o3] 31 (0, 0))) ∧ Hid (OwnLaw (w.heap.size + 3) wr v L) ∧ Hid (L.length = i) ∧ Hid (∀ a ∈ L, AimFull 24 a.1) ∧ w.heap.size + 3 ≤ wr.heap.size) (fun _ ii _ => most - (intOf ii).toNat)
  case atStart => exact ⟨0, 0, .slice none 0 0, [], rfl, rfl, Nat.zero_le _, Nat.le_refl _, HB.out, HO0.out, HO1.out, HO2.out, OwnLaw.nil _ _, rfl, (fun _ h => (by cases h) : ∀ a ∈ ([] : List Laid), AimFull 24 a.1), by omega⟩
  case round =>
    obtain ⟨i, n, v, L, rfl, rfl, him, hn, hBr, q0, q1, q2, hCo, hLi, hAF, zr⟩ := hrel
    clear HB HO0 HO1 HO2
    have x0 : wr.cell? ⟨w.heap.size, 0, none⟩ = some (.slice pw nw cw) := by simp [World.cell?, q0.out]
    by_cases hgo : i = 0 ∨ (i < nw ∧ i < most)
    · go_upto_region 4 with (fail)
      go_cut [39] (fun c wx => c = .bool true ∧ wx = wr)
      case first =>
        rcases hgo with h | ⟨h1, h2⟩
        · subst h
          go_wp2
          go_meet
          exact ⟨rfl, rfl⟩
        · by_cases h0 : i = 0
          · subst h0
            go_wp2
            go_meet
            exact ⟨rfl, rfl⟩
          · have e0 : ((i : Int) == 0) = false := by rw [beq_eq_false_iff_ne]; omega
            go_wp2
            go_meet
            exact ⟨rfl, rfl⟩
      case rest =>
        obtain ⟨rfl, rfl⟩ := hcut
        go_upto_if 46 with (fail)
        have him3 : (i : Int) % 3 = ((i % 3 : Nat) : Int) := by simp
        obtain ⟨i3, hi3⟩ : ∃ i3, i % 3 = i3 := ⟨_, rfl⟩
        have hi33 : i3 < 3 := by rw [← hi3]; exact Nat.mod_lt _ (by omega)
        rw [hi3] at him3
        go_cut [8] (fun W8 wx => R8 i3 W8 ∧ wx = wc)
        case first =>
          by_cases hin : i < nw
          · obtain ⟨bw, ow, hpw, hbw, hcw⟩ := HW.out.cells (by omega)
            subst hpw
            have hci := ((hBr.out.cell (p := ⟨bw, ow + i, none⟩) hbw).trans (hcw i hin))
            have hfi65 := HFW.out i
            obtain ⟨fi, hfi⟩ : ∃ fi, fw i = fi := ⟨_, rfl⟩
            rw [hfi] at hci hfi65
            clear hcw hi3 hfi
            go_wp2
            go_meet
            exact ⟨⟨_, rfl, bit_set fi (6 + i3) hfi65 (by omega)⟩, rfl⟩
          · have hi0 : i3 = 0 := by
              rcases hgo with h | ⟨h, _⟩
              · rw [← hi3, h]
              · exact absurd h hin
            subst hi0
            clear him3
            go_wp2
            go_meet
            exact ⟨⟨64, rfl, by decide⟩, rfl⟩
        case rest =>
          obtain ⟨⟨W, rfl, HWB⟩, rfl⟩ := hcut
          obtain ⟨wo, rfl⟩ : ∃ wo : World, wo = wc := ⟨_, rfl⟩
          go_upto_region 9 with (fail)
          go_cut [9, 10, 11, 12] (fun a al su hi wx => R9 wo a al su hi wx)
          case first =>
            have hbc := fun W => beds_any W
            have HBC := Lib.hid hbc
            clear hbc
            have ht : (i : Int).tmod 3 = (i3 : Int) := (Int.tmod_eq_emod_of_nonneg (by omega)).trans him3
            have hw6 : IntKind.i64.wrap (6 + (i3 : Int)) = 6 + (i3 : Int) := IntWalk.i64_in _ (by omega)
            have hjx : (0 : Int) ≤ 6 + (i3 : Int) := by omega
            have hjx2 : (6 : Int) + (i3 : Int) < 10 := by omega
            have hjx3 : (6 + (i3 : Int)).toNat = 6 + i3 := by omega
            obtain ⟨at0, hat1, hat2⟩ : ∃ at0 : Nat, (#[.int .i64 0, .int .i64 101, .int .i64 102, .int .i64 103, .int .i64 105, .int .i64 125, .int .i64 201, .int .i64 202, .int .i64 204, .int .i64 301] : Array Value)[6 + i3]? = some (.int .i64 at0) ∧ (at0 = 201 ∨ at0 = 202 ∨ at0 = 204) := by
              have h3 : i3 = 0 ∨ i3 = 1 ∨ i3 = 2 := by omega
              rcases h3 with rfl | rfl | rfl
              · exact ⟨201, rfl, by omega⟩
              · exact ⟨202, rfl, by omega⟩
              · exact ⟨204, rfl, by omega⟩
            have HAT := Lib.hid hat1
            clear hat1
            have hbn := fun W : World => (cell_new W #[.int .i64 0, .int .i64 101, .int .i64 102, .int .i64 103, .int .i64 105, .int .i64 125, .int .i64 201, .int .i64 202, .int .i64 204, .int .i64 301] 53 (0, 0) W.heap.size (6 + i3) rfl).trans HAT.out
            have hb1 : (wo.alloc (Obj.cells #[.int .i64 0, .int .i64 101, .int .i64 102, .int .i64 103, .int .i64 105, .int .i64 125, .int .i64 201, .int .i64 202, .int .i64 204, .int .i64 301] 53)).cell? ⟨wo.heap.size, 6 + i3, none⟩ = some (.int .i64 at0) := hbn wo
            have hb2 : ∀ o, ((wo.alloc (Obj.cells #[.int .i64 0, .int .i64 101, .int .i64 102, .int .i64 103, .int .i64 105, .int .i64 125, .int .i64 201, .int .i64 202, .int .i64 204, .int .i64 301] 53)).alloc o).cell? ⟨wo.heap.size, 6 + i3, none⟩ = some (.int .i64 at0) := fun o => (cell_old _ _ _ (by simp)).trans hb1
            have hb3 : ∀ o o', (((wo.alloc (Obj.cells #[.int .i64 0, .int .i64 101, .int .i64 102, .int .i64 103, .int .i64 105, .int .i64 125, .int .i64 201, .int .i64 202, .int .i64 204, .int .i64 301] 53)).alloc o).alloc o').cell? ⟨wo.heap.size, 6 + i3, none⟩ = some (.int .i64 at0) := fun o o' => (cell_old _ _ _ (by simp <;> omega)).trans (hb2 o)
            have hb4 : ∀ o, ((wo.alloc o).alloc (Obj.cells #[.int .i64 0, .int .i64 101, .int .i64 102, .int .i64 103, .int .i64 105, .int .i64 125, .int .i64 201, .int .i64 202, .int .i64 204, .int .i64 301] 53)).cell? ⟨wo.heap.size + 1, 6 + i3, none⟩ = some (.int .i64 at0) := fun o => by
              have := hbn (wo.alloc o)
              rwa [World.size_alloc] at this
            have hb5 : ∀ o o', (((wo.alloc o).alloc (Obj.cells #[.int .i64 0, .int .i64 101, .int .i64 102, .int .i64 103, .int .i64 105, .int .i64 125, .int .i64 201, .int .i64 202, .int .i64 204, .int .i64 301] 53)).alloc o').cell? ⟨wo.heap.size + 1, 6 + i3, none⟩ = some (.int .i64 at0) := fun o o' => (cell_old _ _ _ (by simp)).trans (hb4 o)
            have HB1 := Lib.hid hb1
            have HB2 := Lib.hid hb2
            have HB3 := Lib.hid hb3
            have HB4 := Lib.hid hb4
            have HB5 := Lib.hid hb5
            clear hbn hb1 hb2 hb3 hb4 hb5
            refine wp_region_plan (fun _ => True) 9 (.take 1 (.take 2 (.take 3 (.two 0 (.more (.take 4 (.take 5 (.take 6 (.two 7 (.one 8 (.tail 9 (.tail 10 (.tail 11 (.tail 12 .done))))) 8 (.one 7 (.tail 9 (.tail 10 (.tail 11 (.tail 12 .done)))))))))) 8 (.one 0 (.more (.take 4 (.take 5 (.take 6 (.one 7 (.tail 9 (.tail 10 (.tail 11 (.tail 12 .done)))))))))))))) (by kernel_rfl) (by kernel_rfl) trivial ?_
            repeat (refine plan_take (o := ?_) (v := ?_) ?_ ?_ ?_ ?_ ?_; rotate_left 2; (focus rfl); (focus rfl); (focus (intro W hSw; (try dsimp only at hSw); go_simp; (try with_reducible rfl))); (focus exact fun _ _ _ h => h); (try simp only [Act.put, List.setIfInBounds_toArray, List.set_cons_zero, List.set_cons_succ]))
            refine plan_two (o := ?_) (o' := ?_) ?_ ?_ (fun K hK => ?_) (fun K hK => ?_)
            rotate_left 2
            (focus rfl)
            (focus rfl)
            · go_simp
              refine (HBC.out _).mono ?_
              rintro e w' ⟨rfl, rfl⟩
              (try go_wp2_with fail)
              refine hK.out _ _ trivial ?_
              clear hK K
              (try simp only [Act.put, List.setIfInBounds_toArray, List.set_cons_zero, List.set_cons_succ])
              refine plan_more (fun W => W.cell? ⟨wo.heap.size, 6 + i3, none⟩ = some (.int .i64 at0)) (fun _ _ => trivial) (by first | exact HB1.out | exact HB2.out _ | exact HB3.out _ _ | exact HB4.out _ | exact HB5.out _ _) ?_
              repeat (refine plan_take (o := ?_) (v := ?_) ?_ ?_ ?_ ?_ ?_; rotate_left 2; (focus rfl); (focus rfl); (focus (intro W hSw; (try dsimp only at hSw); go_simp; (try with_reducible rfl))); (focus exact fun _ _ _ h => h); (try simp only [Act.put, List.setIfInBounds_toArray, List.set_cons_zero, List.set_cons_succ]))
              refine plan_two (o := ?_) (o' := ?_) ?_ ?_ (fun K hK => ?_) (fun K hK => ?_)
              rotate_left 2
              (focus rfl)
              (focus rfl)
              · go_simp
                refine (HBC.out _).mono ?_
                rintro e w' ⟨rfl, rfl⟩
                (try go_wp2_with fail)
                refine hK.out _ _ (by first | exact HB1.out | exact HB2.out _ | exact HB3.out _ _ | exact HB4.out _ | exact HB5.out _ _) ?_
                clear hK K
                (try simp only [Act.put, List.setIfInBounds_toArray, List.set_cons_zero, List.set_cons_succ])
                refine plan_one (o := ?_) ?_ (fun K hK => ?_)
                rotate_left 1
                (focus rfl)
                go_simp
                refine hK.out _ _ (by first | exact HB1.out | exact HB2.out _ | exact HB3.out _ _ | exact HB4.out _ | exact HB5.out _ _) ?_
                clear hK K
                (try simp only [Act.put, List.setIfInBounds_toArray, List.set_cons_zero, List.set_cons_succ])
                refine plan_tail (o := ?_) ?_ (fun K hK => ?_)
                rotate_left 1
                (focus rfl)
                go_simp
                refine hK.out _ _ ?_
                clear hK K
                (try simp only [Act.put, List.setIfInBounds_toArray, List.set_cons_zero, List.set_cons_succ])
                refine plan_tail (o := ?_) ?_ (fun K hK => ?_)
                rotate_left 1
                (focus rfl)
                go_simp
                refine hK.out _ _ ?_
                clear hK K
                (try simp only [Act.put, List.setIfInBounds_toArray, List.set_cons_zero, List.set_cons_succ])
                refine plan_tail (o := ?_) ?_ (fun K hK => ?_)
                rotate_left 1
                (focus rfl)
                go_simp
                refine hK.out _ _ ?_
                clear hK K
                (try simp only [Act.put, List.setIfInBounds_toArray, List.set_cons_zero, List.set_cons_succ])
                refine plan_tail (o := ?_) ?_ (fun K hK => ?_)
                rotate_left 1
                (focus rfl)
                go_simp
                refine hK.out _ _ ?_
                clear hK K
                (try simp only [Act.put, List.setIfInBounds_toArray, List.set_cons_zero, List.set_cons_succ])
                refine plan_done ?_
                obtain ⟨g0, g1, g2, gz, gb⟩ := alloc3 wo (Obj.cells #[.int .i64 0, .int .i64 101, .int .i64 102, .int .i64 103, .int .i64 105, .int .i64 125, .int .i64 201, .int .i64 202, .int .i64 204, .int .i64 301] 53) (Obj.cells #[.int .i64 0, .int .i64 101, .int .i64 102, .int .i64 103, .int .i64 105, .int .i64 125, .int .i64 201, .int .i64 202, .int .i64 204, .int .i64 301] 53) (Obj.cells #[.int .i64 at0, .slice none 0 0] 56)
                go_wp2_with fail
                go_meet
                exact ⟨wo.heap.size + 1 + 1, wo.heap.size + 1, at0, rfl, rfl, rfl, rfl, hat2, gb.trans ⟨rfl, rfl, rfl, Nat.le_refl _, fun _ _ => rfl⟩, g2, g1, by omega, by omega, Nat.lt_of_lt_of_le (show wo.heap.size + 1 + 1 < wo.heap.size + 3 by omega) (Nat.le_of_eq gz.symm), Nat.lt_of_lt_of_le (show wo.heap.size + 1 < wo.heap.size + 3 by omega) (Nat.le_of_eq gz.symm), by omega⟩
              · go_simp
                refine hK.out _ _ (by first | exact HB1.out | exact HB2.out _ | exact HB3.out _ _ | exact HB4.out _ | exact HB5.out _ _) ?_
                clear hK K
                (try simp only [Act.put, List.setIfInBounds_toArray, List.set_cons_zero, List.set_cons_succ])
                refine plan_one (o := ?_) ?_ (fun K hK => ?_)
                rotate_left 1
                (focus rfl)
                go_simp
                refine (HBC.out _).mono ?_
                rintro e w' ⟨rfl, rfl⟩
                (try go_wp2_with fail)
                refine hK.out _ _ (by first | exact HB1.out | exact HB2.out _ | exact HB3.out _ _ | exact HB4.out _ | exact HB5.out _ _) ?_
                clear hK K
                (try simp only [Act.put, List.setIfInBounds_toArray, List.set_cons_zero, List.set_cons_succ])
                refine plan_tail (o := ?_) ?_ (fun K hK => ?_)
                rotate_left 1
                (focus rfl)
                go_simp
                refine hK.out _ _ ?_
                clear hK K
                (try simp only [Act.put, List.setIfInBounds_toArray, List.set_cons_zero, List.set_cons_succ])
                refine plan_tail (o := ?_) ?_ (fun K hK => ?_)
                rotate_left 1
                (focus rfl)
                go_simp
                refine hK.out _ _ ?_
                clear hK K
                (try simp only [Act.put, List.setIfInBounds_toArray, List.set_cons_zero, List.set_cons_succ])
                refine plan_tail (o := ?_) ?_ (fun K hK => ?_)
                rotate_left 1
                (focus rfl)
                go_simp
                refine hK.out _ _ ?_
                clear hK K
                (try simp only [Act.put, List.setIfInBounds_toArray, List.set_cons_zero, List.set_cons_succ])
                refine plan_tail (o := ?_) ?_ (fun K hK => ?_)
                rotate_left 1
                (focus rfl)
                go_simp
                refine hK.out _ _ ?_
                clear hK K
                (try simp only [Act.put, List.setIfInBounds_toArray, List.set_cons_zero, List.set_cons_succ])
                refine plan_done ?_
                obtain ⟨g0, g1, g2, gz, gb⟩ := alloc3 wo (Obj.cells #[.int .i64 0, .int .i64 101, .int .i64 102, .int .i64 103, .int .i64 105, .int .i64 125, .int .i64 201, .int .i64 202, .int .i64 204, .int .i64 301] 53) (Obj.cells #[.int .i64 at0, .slice none 0 0] 56) (Obj.cells #[.int .i64 0, .int .i64 101, .int .i64 102, .int .i64 103, .int .i64 105, .int .i64 125, .int .i64 201, .int .i64 202, .int .i64 204, .int .i64 301] 53)
                go_wp2_with fail
                go_meet
                exact ⟨wo.heap.size + 1, wo.heap.size + 1 + 1, at0, rfl, rfl, rfl, rfl, hat2, gb.trans ⟨rfl, rfl, rfl, Nat.le_refl _, fun _ _ => rfl⟩, g1, g2, by omega, by omega, Nat.lt_of_lt_of_le (show wo.heap.size + 1 < wo.heap.size + 3 by omega) (Nat.le_of_eq gz.symm), Nat.lt_of_lt_of_le (show wo.heap.size + 1 + 1 < wo.heap.size + 3 by omega) (Nat.le_of_eq gz.symm), by omega⟩
            · go_simp
              refine hK.out _ _ trivial ?_
              clear hK K
              (try simp only [Act.put, List.setIfInBounds_toArray, List.set_cons_zero, List.set_cons_succ])
              refine plan_one (o := ?_) ?_ (fun K hK => ?_)
              rotate_left 1
              (focus rfl)
              go_simp
              refine (HBC.out _).mono ?_
              rintro e w' ⟨rfl, rfl⟩
              (try go_wp2_with fail)
              refine hK.out _ _ trivial ?_
              clear hK K
              (try simp only [Act.put, List.setIfInBounds_toArray, List.set_cons_zero, List.set_cons_succ])
              refine plan_more (fun W => W.cell? ⟨wo.heap.size + 1, 6 + i3, none⟩ = some (.int .i64 at0)) (fun _ _ => trivial) (by first | exact HB1.out | exact HB2.out _ | exact HB3.out _ _ | exact HB4.out _ | exact HB5.out _ _) ?_
              repeat (refine plan_take (o := ?_) (v := ?_) ?_ ?_ ?_ ?_ ?_; rotate_left 2; (focus rfl); (focus rfl); (focus (intro W hSw; (try dsimp only at hSw); go_simp; (try with_reducible rfl))); (focus exact fun _ _ _ h => h); (try simp only [Act.put, List.setIfInBounds_toArray, List.set_cons_zero, List.set_cons_succ]))
              refine plan_one (o := ?_) ?_ (fun K hK => ?_)
              rotate_left 1
              (focus rfl)
              go_simp
              refine (HBC.out _).mono ?_
              rintro e w' ⟨rfl, rfl⟩
              (try go_wp2_with fail)
              refine hK.out _ _ (by first | exact HB1.out | exact HB2.out _ | exact HB3.out _ _ | exact HB4.out _ | exact HB5.out _ _) ?_
              clear hK K
              (try simp only [Act.put, List.setIfInBounds_toArray, List.set_cons_zero, List.set_cons_succ])
              refine plan_tail (o := ?_) ?_ (fun K hK => ?_)
              rotate_left 1
              (focus rfl)
              go_simp
              refine hK.out _ _ ?_
              clear hK K
              (try simp only [Act.put, List.setIfInBounds_toArray, List.set_cons_zero, List.set_cons_succ])
              refine plan_tail (o := ?_) ?_ (fun K hK => ?_)
              rotate_left 1
              (focus rfl)
              go_simp
              refine hK.out _ _ ?_
              clear hK K
              (try simp only [Act.put, List.setIfInBounds_toArray, List.set_cons_zero, List.set_cons_succ])
              refine plan_tail (o := ?_) ?_ (fun K hK => ?_)
              rotate_left 1
              (focus rfl)
              go_simp
              refine hK.out _ _ ?_
              clear hK K
              (try simp only [Act.put, List.setIfInBounds_toArray, List.set_cons_zero, List.set_cons_succ])
              refine plan_tail (o := ?_) ?_ (fun K hK => ?_)
              rotate_left 1
              (focus rfl)
              go_simp
              refine hK.out _ _ ?_
              clear hK K
              (try simp only [Act.put, List.setIfInBounds_toArray, List.set_cons_zero, List.set_cons_succ])
              refine plan_done ?_
              obtain ⟨g0, g1, g2, gz, gb⟩ := alloc3 wo (Obj.cells #[.int .i64 at0, .slice none 0 0] 56) (Obj.cells #[.int .i64 0, .int .i64 101, .int .i64 102, .int .i64 103, .int .i64 105, .int .i64 125, .int .i64 201, .int .i64 202, .int .i64 204, .int .i64 301] 53) (Obj.cells #[.int .i64 0, .int .i64 101, .int .i64 102, .int .i64 103, .int .i64 105, .int .i64 125, .int .i64 201, .int .i64 202, .int .i64 204, .int .i64 301] 53)
              go_wp2_with fail
              go_meet
              exact ⟨wo.heap.size, wo.heap.size + 1 + 1, at0, rfl, rfl, rfl, rfl, hat2, gb.trans ⟨rfl, rfl, rfl, Nat.le_refl _, fun _ _ => rfl⟩, g0, g2, by omega, by omega, Nat.lt_of_lt_of_le (show wo.heap.size < wo.heap.size + 3 by omega) (Nat.le_of_eq gz.symm), Nat.lt_of_lt_of_le (show wo.heap.size + 1 + 1 < wo.heap.size + 3 by omega) (Nat.le_of_eq gz.symm), by omega⟩
          case rest =>
            obtain ⟨A, C, at0, rfl, rfl, rfl, rfl, hat, hBx, hA, hC, zA, zC, lA, lC, hAC⟩ := hcut
            clear him3
            go_wp2_with fail
            go_loopw [6, 11, 12, 13] (fun nn su hi kk wr => ∃ (m q : Nat) (bl : List PBed) (p : Option Addr) (cap : Nat), nn = .int .i64 m ∧ su = .int .i64 (lows bl) ∧ hi = .int .i64 (highs bl) ∧ kk = .int .i64 ((q : Int) - 1) ∧ m = n + bl.length ∧ Hid (BInv i3 q bl) ∧ Hid (BMem wo.heap.size A C at0 wo wr p cap bl) ∧ wc.heap.size ≤ wr.heap.size) (fun _ _ _ kk _ => (1 + intOf kk).toNat)
            case atStart =>
              refine ⟨n, 10, [], none, 0, rfl, rfl, rfl, rfl, rfl, ⟨by omega, by simp, by simp, by simp [lows], by simp, by simp, by simp, fun h => by omega⟩, ⟨hBx.out, hA.out, hC.out, World.ownsRow_nil _ _ _ _, by simp [Value.ownBlock], by simp [Value.ownBlock], fun _ => ⟨rfl, rfl⟩⟩, Nat.le_refl _⟩
            case round =>
              obtain ⟨m, q, bl, p, cap, rfl, rfl, rfl, rfl, hm, hI, hMm, hzz⟩ := hrel
              have hmle : m ≤ 1000 := by have := hI.out.len; omega
              have HMN := Lib.hid hm
              clear hm
              have y1 : wr.cell? ⟨A, 1, none⟩ = some (.slice p bl.length cap) := by simp [World.cell?, hMm.out.aim]
              have hq10 := hI.out.q10
              have hb5 := hI.out.len
              by_cases hq : 1 ≤ q ∧ bl.length < 5
              · obtain ⟨hq, hlt⟩ := hq
                obtain ⟨k, rfl⟩ : ∃ k, q = k + 1 := ⟨q - 1, by omega⟩
                have hk : ((k + 1 : Nat) : Int) - 1 = (k : Int) := by omega
                have hk0 : (0 : Int) ≤ (k : Int) := by omega
                have hlt' : (bl.length : Int) < 5 := by omega
                rw [hk]
                go_upto_if 81 with (fail)
                have hq0 : wr.heap[w.heap.size]? = _ := (hMm.out.below.block _ (by omega)).trans q0.out
                have hbw : Below w.heap.size w wr := hBr.out.trans (hMm.out.below.mono (by omega))
                have x1 : wr.cell? ⟨w.heap.size, 1, none⟩ = some (.slice pl nl cl) := by simp [World.cell?, hq0]
                have x2 : wr.cell? ⟨w.heap.size, 2, none⟩ = some (.slice pm nm cm) := by simp [World.cell?, hq0]
                have hcl := fun W (hW : Below w.heap.size w W) => byteOf_any pl nl cl fl m m (byteP nl fl m) W (HL.out.below hW) rfl (by omega) rfl
                have hcm := fun W (hW : Below w.heap.size w W) => byteOf_any pm nm cm fm m m (byteP nm fm m) W (HM.out.below hW) rfl (by omega) rfl
                have hb1 := byteP_lt (n := nl) HFL.out m
                have hb2 := byteP_lt (n := nm) HFM.out m
                obtain ⟨b1, hb1'⟩ : ∃ b1, byteP nl fl m = b1 := ⟨_, rfl⟩
                obtain ⟨b2, hb2'⟩ : ∃ b2, byteP nm fm m = b2 := ⟨_, rfl⟩
                rw [hb1'] at hcl hb1
                rw [hb2'] at hcm hb2
                have HCL := Lib.hid hcl
                have HCM := Lib.hid hcm
                have HBW := Lib.hid hbw
                have HQ0 := Lib.hid hq0
                clear hcl hcm hb1' hb2' hq0 hbw
                obtain ⟨tv, htv⟩ : ∃ tv : Bool, (bits BinOp.and IntKind.u16 (W / 2 ^ k) 1 == 1) = tv := ⟨_, rfl⟩
                cases tv with
                | false =>
                  have hne : k ≠ 6 + i3 := by
                    rintro rfl
                    rw [HWB] at htv
                    simp at htv
                  have HI2 := Lib.hid (hI.out.skip hne)
                  clear hne
                  go_wp2
                  go_roundw
                  case rel => exact ⟨m, k, bl, p, cap, rfl, rfl, rfl, by go_num, HMN.out, HI2.out, hMm, hzz⟩
                  case measure => simp [intOf]; omega
                | true =>
                  have hm1 : 0 ≤ (b1 : Int) % 6 ∧ (b1 : Int) % 6 ≤ 5 := by omega
                  have hm2 : 0 ≤ (b2 : Int) % 9 ∧ (b2 : Int) % 9 ≤ 8 := by omega
                  have hsm := hI.out.lows
                  have hsl := lows_nonneg hI.out.small
                  have hshb := highs_le bl hI.out.small
                  obtain ⟨su, hsu⟩ : ∃ su, lows bl = su := ⟨_, rfl⟩
                  obtain ⟨sh, hsh⟩ : ∃ sh, highs bl = sh := ⟨_, rfl⟩
                  rw [hsu] at hsm hsl ⊢
                  rw [hsh] at hshb ⊢
                  have HSU := Lib.hid hsu
                  have HSH := Lib.hid hsh
                  clear hsu hsh
                  go_wp2_with (first | (go_at_call 21; refine (HCL.out _ HBW.out).mono ?_; rintro e w' ⟨rfl, rfl⟩))
                  have hlt0 : w.heap.size < wr.heap.size := by omega
                  have hlob : 0 ≤ min ((b1 : Int) % 6) (24 - su) ∧ min ((b1 : Int) % 6) (24 - su) ≤ 5 ∧ min ((b1 : Int) % 6) (24 - su) ≤ 24 - su := by omega
                  obtain ⟨lo, hlo⟩ : ∃ lo, min ((b1 : Int) % 6) (24 - su) = lo := ⟨_, rfl⟩
                  rw [hlo] at hlob ⊢
                  clear hlo hb1
                  have hbx : ∀ o, Below w.heap.size w (wr.alloc o).drew := fun o => HBW.out.trans (((Below.refl _ wr).alloc (by omega) _).trans ⟨rfl, rfl, rfl, Nat.le_refl _, fun _ _ => rfl⟩)
                  have HBX := Lib.hid hbx
                  clear hbx
                  have ht9 : (b2 : Int).tmod 9 = (b2 : Int) % 9 := Int.tmod_eq_emod_of_nonneg (by omega)
                  have hw9 : IntKind.i64.wrap (lo + (b2 : Int) % 9) = lo + (b2 : Int) % 9 := IntWalk.i64_in _ (by omega)
                  have hmin : min 24 (lo + (b2 : Int) % 9) = lo + (b2 : Int) % 9 := by omega
                  have hm24 : lo + (b2 : Int) % 9 < 24 := by omega
                  refine wp_region_ord (fun W => W.cell? ⟨wr.heap.size, 0, none⟩ = some (.int .i64 lo) ∧ W.cell? ⟨w.heap.size, 2, none⟩ = some (.slice pm nm cm)) 11 [(0, 0), (0, 1), (0, 2), (0, 3), (0, 4), (1, 5), (0, 6), (0, 7), (0, 8), (0, 9), (0, 10), (2, 11)] (by kernel_rfl) (by kernel_rfl) ⟨(cell_new wr #[.int .i64 lo, .int .i64 0] 59 (0, 0) _ 0 rfl), (cell_old wr _ _ hlt0).trans x2⟩ ?_
                  simp only [opsOf, List.map_cons, List.map_nil, List.getElem?_cons_zero, List.getElem?_cons_succ]
                  repeat (refine wpOrd_take (v := ?_) (by rfl) ?_ (fun _ _ _ h => h) ?_; rotate_left; (focus (intro W hSw; (try dsimp only at hSw); go_simp; (try with_reducible rfl))); (try simp only [Act.put, List.setIfInBounds_toArray, List.set_cons_zero, List.set_cons_succ]))
                  refine wpOrd_eff (fun K hK => ?_)
                  go_simp
                  refine (HCM.out _ (HBX.out _)).mono ?_
                  rintro e w' ⟨rfl, rfl⟩
                  (try go_wp2_with fail)
                  refine hK.out _ _ ⟨(cell_new wr #[.int .i64 lo, .int .i64 0] 59 (0, 0) _ 0 rfl), (cell_old wr _ _ hlt0).trans x2⟩ ?_
                  clear hK K
                  (try simp only [Act.put, List.setIfInBounds_toArray, List.set_cons_zero, List.set_cons_succ])
                  repeat (refine wpOrd_take (v := ?_) (by rfl) ?_ (fun _ _ _ h => h) ?_; rotate_left; (focus (intro W hSw; (try dsimp only at hSw); go_simp; (try with_reducible rfl))); (try simp only [Act.put, List.setIfInBounds_toArray, List.set_cons_zero, List.set_cons_succ]))
                  refine wpOrd_tail (fun K hK => ?_)
                  go_simp
                  refine hK.out _ _ ?_
                  clear hK K
                  refine wpOrd_done ?_
                  have hhi : lo ≤ min 24 (IntKind.i64.wrap (lo + (IntKind.i64.wrap (b2 : Int)).tmod 9)) ∧ min 24 (IntKind.i64.wrap (lo + (IntKind.i64.wrap (b2 : Int)).tmod 9)) ≤ 24 := by
                    have e : IntKind.i64.wrap (b2 : Int) = b2 := IntWalk.i64_in _ (by omega)
                    rw [e, ht9, hw9]
                    omega
                  obtain ⟨hi, hhi'⟩ : ∃ hi, min 24 (IntKind.i64.wrap (lo + (IntKind.i64.wrap (b2 : Int)).tmod 9)) = hi := ⟨_, rfl⟩
                  rw [hhi'] at hhi ⊢
                  clear hhi' hmin hw9 ht9 hm24 hm1 hm2 hb2
                  obtain ⟨ck, hck, hbv, hcc⟩ := beds_code k (by omega)
                  obtain ⟨w2, hw2⟩ : ∃ w2, (wr.alloc (Obj.cells #[.int .i64 lo, .int .i64 hi] 59)).drew = w2 := ⟨_, rfl⟩
                  have hBR : Below wr.heap.size wr w2 := by rw [← hw2]; exact ((Below.refl _ wr).alloc (Nat.le_refl _) _).trans ⟨rfl, rfl, rfl, Nat.le_refl _, fun _ _ => rfl⟩
                  have e0 : w2.cell? ⟨wr.heap.size, 0, none⟩ = some (.int .i64 lo) := by rw [← hw2]; exact cell_new wr #[.int .i64 lo, .int .i64 hi] 59 (0, 0) _ 0 rfl
                  have e1 : w2.cell? ⟨wr.heap.size, 1, none⟩ = some (.int .i64 hi) := by rw [← hw2]; exact cell_new wr #[.int .i64 lo, .int .i64 hi] 59 (0, 0) _ 1 rfl
                  have hz2 : w2.heap.size = wr.heap.size + 1 := by rw [← hw2]; show (wr.alloc _).heap.size = _; simp
                  have hNr : wo.heap.size ≤ wr.heap.size := hMm.out.below.size
                  have hAr : A < wr.heap.size := lt_of_block hMm.out.aim
                  have hCr : C < wr.heap.size := lt_of_block hMm.out.all
                  have hAh := (hBR.block A hAr).trans hMm.out.aim
                  have hCh := (hBR.block C hCr).trans hMm.out.all
                  have ea : w2.cell? ⟨A, 1, none⟩ = some (.slice p bl.length cap) := by simp [World.cell?, hAh]
                  have ec : w2.cell? ⟨C, k, none⟩ = some (.int .i64 ck) := by simp [World.cell?, hCh, hbv]
                  have hk10 : (k : Int) < 10 := by omega
                  have hown0 : (w2.alloc (.cells #[.int .i64 ck, .int .i64 lo, .int .i64 hi] 61)).drew.ownsRow wo.heap.size 61 3 (.slice (some ⟨wr.heap.size + 1, 0, none⟩) 1 1) 1 [.int .i64 ck, .int .i64 lo, .int .i64 hi] :=
                    ⟨rfl, .inr ⟨wr.heap.size + 1, 1, #[.int .i64 ck, .int .i64 lo, .int .i64 hi], rfl, by omega, by
                      have := World.alloc_heap_new w2 (.cells #[.int .i64 ck, .int .i64 lo, .int .i64 hi] 61)
                      rwa [hz2] at this, Nat.le_refl _, by unfold maxLen; omega, rfl, rfl⟩⟩
                  have hBA : Below (wr.heap.size + 1) w2 (w2.alloc (.cells #[.int .i64 ck, .int .i64 lo, .int .i64 hi] 61)).drew := ((Below.refl _ w2).alloc (Nat.le_of_eq hz2.symm) _).trans ⟨rfl, rfl, rfl, Nat.le_refl _, fun _ _ => rfl⟩
                  have hzA : (w2.alloc (.cells #[.int .i64 ck, .int .i64 lo, .int .i64 hi] 61)).drew.heap.size = wr.heap.size + 2 := by show (w2.alloc _).heap.size = _; rw [World.size_alloc]; omega
                  have hnw : ∀ j, (w2.alloc (.cells #[.int .i64 ck, .int .i64 lo, .int .i64 hi] 61)).drew.cell? ⟨wr.heap.size + 1, j, none⟩ = (#[.int .i64 ck, .int .i64 lo, .int .i64 hi] : Array Value)[j]? := fun j => cell_new w2 #[.int .i64 ck, .int .i64 lo, .int .i64 hi] 61 (0, 0) _ j hz2.symm
                  have HBR := Lib.hid hBR
                  have HCK := Lib.hid hck
                  rw [hw2]
                  have hnil := hMm.out.nil
                  have hfo : 0 < bl.length → ∃ g, p = some ⟨g, 0, none⟩ := fun h => by
                    obtain ⟨g, cp, h1, _, _⟩ := hMm.out.own.form h
                    simp at h1
                    exact ⟨g, h1.1⟩
                  obtain ⟨inb, hib, hb0, hb1', hb2'⟩ := info_parts infoBed
                  have HIB := Lib.hid hib
                  have HI0 := Lib.hid hb0
                  have HI1 := Lib.hid hb1'
                  have HI2 := Lib.hid hb2'
                  have HOWN0 := Lib.hid hown0
                  have HBA := Lib.hid hBA
                  have HZA := Lib.hid hzA
                  have HNW := Lib.hid hnw
                  clear hw2 hBR hck hbv hcc hown0 hBA hzA hnw x1 x2 y1 hib hb0 hb1' hb2'
                  go_wp2_with fail
                  rcases Nat.eq_zero_or_pos bl.length with h0 | h0
                  · obtain ⟨hp0, hc0⟩ := hnil (List.eq_nil_of_length_eq_zero h0)
                    have ea0 : w2.cell? ⟨A, 1, none⟩ = some (.slice none 0 0) := by rw [ea, hp0, hc0, h0]
                    have hown4 : (w2.alloc (.cells #[.int .i64 ck, .int .i64 lo, .int .i64 hi] 61)).drew.ownsRow wo.heap.size 61 3 (.slice (some ⟨wr.heap.size + 1, 0, none⟩) 1 1) 1 (bedCells (⟨ck, lo, hi⟩ :: bl)) := by
                      rw [List.eq_nil_of_length_eq_zero h0]; exact HOWN0.out
                    have HL0 := Lib.hid h0
                    clear ea hnil hfo hp0 hc0 h0
                    have ea := ea0
                    clear ea0
                    refine wp_region_ord (fun W => W.cell? ⟨wr.heap.size, 0, none⟩ = some (.int .i64 lo) ∧ W.cell? ⟨wr.heap.size, 1, none⟩ = some (.int .i64 hi) ∧ W.cell? ⟨A, 1, none⟩ = some (.slice none 0 0) ∧ W.cell? ⟨C, k, none⟩ = some (.int .i64 ck)) 11 [(0, 0), (0, 1), (0, 2), (0, 3), (0, 4), (0, 5), (0, 7), (0, 8), (1, 6), (1, 9), (0, 10), (2, 11)] (by kernel_rfl) (by kernel_rfl) ⟨e0, e1, ea, ec⟩ ?_
                    simp only [opsOf, List.map_cons, List.map_nil, List.getElem?_cons_zero, List.getElem?_cons_succ]
                    repeat (refine wpOrd_take (v := ?_) (by rfl) ?_ (fun _ _ _ h => h) ?_; rotate_left; (focus (intro W hSw; (try dsimp only at hSw); go_simp; (try with_reducible rfl))); (try simp only [Act.put, List.setIfInBounds_toArray, List.set_cons_zero, List.set_cons_succ]))
                    refine wpOrd_eff (fun K hK => ?_)
                    go_simp
                    refine hK.out _ _ ⟨(HBA.out.cell (p := ⟨wr.heap.size, 0, none⟩) (by simp only; omega)).trans e0, (HBA.out.cell (p := ⟨wr.heap.size, 1, none⟩) (by simp only; omega)).trans e1, (HBA.out.cell (p := ⟨A, 1, none⟩) (by simp only; omega)).trans ea, (HBA.out.cell (p := ⟨C, k, none⟩) (by simp only; omega)).trans ec⟩ ?_
                    clear hK K
                    (try simp only [Act.put, List.setIfInBounds_toArray, List.set_cons_zero, List.set_cons_succ])
                    have HOWN4 := Lib.hid hown4
                    clear hown4
                    refine wpOrd_eff (fun K hK => ?_)
                    go_simp
                    obtain ⟨w4, hw4⟩ : ∃ w4, (w2.alloc (Obj.cells #[.int .i64 ck, .int .i64 lo, .int .i64 hi] 61)).drew = w4 := ⟨_, rfl⟩
                    have hB4 : Below (wr.heap.size + 1) w2 w4 := by rw [← hw4]; exact HBA.out
                    have hown4 : w4.ownsRow wo.heap.size 61 3 (.slice (some ⟨wr.heap.size + 1, 0, none⟩) 1 1) 1 (bedCells (⟨ck, lo, hi⟩ :: bl)) := by rw [← hw4]; exact HOWN4.out
                    have hgz4 : wr.heap.size + 2 ≤ w4.heap.size := by rw [← hw4, HZA.out]; omega
                    have hg2 : wr.heap.size + 1 ≤ wr.heap.size + 1 := Nat.le_refl _
                    rw [hw4]
                    clear hw4 HOWN4
                    have hz4 : wr.heap.size + 2 ≤ w4.heap.size := hgz4
                    have v0 : w4.cell? ⟨wr.heap.size, 0, none⟩ = some (.int .i64 lo) := (hB4.cell (p := ⟨wr.heap.size, 0, none⟩) (by simp only; omega)).trans e0
                    have v1 : w4.cell? ⟨wr.heap.size, 1, none⟩ = some (.int .i64 hi) := (hB4.cell (p := ⟨wr.heap.size, 1, none⟩) (by simp only; omega)).trans e1
                    have va : w4.cell? ⟨A, 1, none⟩ = some (.slice none 0 0) := (hB4.cell (p := ⟨A, 1, none⟩) (by simp only; omega)).trans ea
                    have vc : w4.cell? ⟨C, k, none⟩ = some (.int .i64 ck) := (hB4.cell (p := ⟨C, k, none⟩) (by simp only; omega)).trans ec
                    have vf : w4.frozen? ⟨A, 1, none⟩ = false := by
                      have := (hB4.block A (by omega)).trans hAh
                      simp [World.frozen?, this]
                    refine hK.out _ _ ⟨v0, v1, va, vc⟩ ?_
                    clear hK K
                    (try simp only [Act.put, List.setIfInBounds_toArray, List.set_cons_zero, List.set_cons_succ])
                    have HB4 := Lib.hid hB4
                    have HOW4 := Lib.hid hown4
                    have HG4 := Lib.hid hgz4
                    clear hB4 hown4 hgz4
                    repeat (refine wpOrd_take (v := ?_) (by rfl) ?_ (fun _ _ _ h => h) ?_; rotate_left; (focus (intro W hSw; (try dsimp only at hSw); go_simp; (try with_reducible rfl))); (try simp only [Act.put, List.setIfInBounds_toArray, List.set_cons_zero, List.set_cons_succ]))
                    refine wpOrd_tail (fun K hK => ?_)
                    go_simp
                    refine hK.out _ _ ?_
                    clear hK K
                    refine wpOrd_done ?_
                    have hA5 : (w4.setCell ⟨A, 1, none⟩ (.slice (some ⟨wr.heap.size + 1, 0, none⟩) 1 1)).heap[A]? = some (.cells #[.int .i64 at0, .slice (some ⟨wr.heap.size + 1, 0, none⟩) 1 1] 56 (0, 0)) := setCell_block ((HB4.out.block A (by omega)).trans hAh)
                    obtain ⟨w5, hw5⟩ : ∃ w5, w4.setCell ⟨A, 1, none⟩ (.slice (some ⟨wr.heap.size + 1, 0, none⟩) 1 1) = w5 := ⟨_, rfl⟩
                    have hX5 : ∀ j, j ≠ A → w5.heap[j]? = w4.heap[j]? := fun j hj => by rw [← hw5]; exact Below.heap_setCell _ _ _ _ hj
                    have hz5 : w5.heap.size = w4.heap.size := by rw [← hw5]; simp [World.setCell]
                    have hs5 : Below A w4 w5 := by rw [← hw5]; exact (Below.refl _ _).setCell (by simp) _
                    rw [hw5] at hA5 ⊢
                    have u0 : w5.cell? ⟨wr.heap.size, 0, none⟩ = some (.int .i64 lo) := (World.cell?_of_block (a := ⟨wr.heap.size, 0, none⟩) (hX5 _ (by simp only; omega))).trans v0
                    have u1 : w5.cell? ⟨wr.heap.size, 1, none⟩ = some (.int .i64 hi) := (World.cell?_of_block (a := ⟨wr.heap.size, 1, none⟩) (hX5 _ (by simp only; omega))).trans v1
                    have hM5 : BMem wo.heap.size A C at0 wo w5 (some ⟨wr.heap.size + 1, 0, none⟩) 1 (⟨ck, lo, hi⟩ :: bl) := by
                      have hln : (⟨ck, lo, hi⟩ :: bl : List PBed).length = 1 := by simp [HL0.out]
                      refine ⟨hMm.out.below.trans ((HBR.out.trans (HB4.out.mono (by omega))).mono hNr |>.trans (hs5.mono zA)), by rw [hln]; exact hA5, ?_, ?_, ?_, ?_, ?_⟩
                      · rw [hX5 C (Ne.symm hAC)]
                        exact (HB4.out.block C (by omega)).trans hCh
                      · rw [hln]
                        exact owns_same HOW4.out fun g hg => hX5 g (by simp [Value.ownBlock] at hg; omega)
                      · simp [Value.ownBlock]; omega
                      · simp [Value.ownBlock]; omega
                      · simp
                    have HM5 := Lib.hid hM5
                    have HZ5 : Hid (wc.heap.size ≤ w5.heap.size) := by unfold Hid; rw [hz5]; omega
                    clear hw5 hX5 hs5 hM5 v0 v1 va vc vf hA5 HOW4 HB4 HG4 e0 e1 ea ec hz4 hz5 hAh hCh
                    have hwa1 : IntKind.i64.wrap (su + lo) = su + lo := IntWalk.i64_in _ (by omega)
                    have hwa2 : IntKind.i64.wrap (sh + hi) = sh + hi := IntWalk.i64_in _ (by omega)
                    have hwa3 : IntKind.i64.wrap ((m : Int) + 1) = (m : Int) + 1 := IntWalk.i64_in _ (by omega)
                    go_wp2_with fail
                    refine wp_region_ord (fun W => W.cell? ⟨wr.heap.size, 0, none⟩ = some (.int .i64 lo) ∧ W.cell? ⟨wr.heap.size, 1, none⟩ = some (.int .i64 hi)) 13 [(0, 0), (0, 1), (0, 2), (0, 3), (0, 4), (0, 5), (0, 6), (0, 7), (0, 8), (0, 9), (0, 10), (0, 11), (0, 12)] (by kernel_rfl) (by kernel_rfl) ⟨u0, u1⟩ ?_
                    simp only [opsOf, List.map_cons, List.map_nil, List.getElem?_cons_zero, List.getElem?_cons_succ]
                    repeat (refine wpOrd_take (v := ?_) (by rfl) ?_ (fun _ _ _ h => h) ?_; rotate_left; (focus (intro W hSw; (try dsimp only at hSw); go_simp; (try with_reducible rfl))); (try simp only [Act.put, List.setIfInBounds_toArray, List.set_cons_zero, List.set_cons_succ]))
                    refine wpOrd_done ?_
                    clear hwa1 hwa2 hwa3 u0 u1
                    go_wp2
                    go_roundw
                    case rel =>
                      refine ⟨m + 1, k, ⟨ck, lo, hi⟩ :: bl, some ⟨wr.heap.size + 1, 0, none⟩, 1, by go_num, by rw [AimP.lows, HSU.out]; exact congrArg (Value.int .i64) (by simp only; omega), by rw [AimP.highs, HSH.out]; exact congrArg (Value.int .i64) (by simp only; omega), rfl, by rw [HMN.out]; simp; omega, hI.out.cons hlt HCK.out (by omega) (by omega) (by omega) (by rw [HSU.out]; omega), ?_, HZ5.out⟩
                      have := HM5.out
                      exact ⟨this.below.trans ⟨rfl, rfl, rfl, Nat.le_refl _, fun _ _ => rfl⟩, this.aim, this.all, this.own, this.na, this.nc, this.nil⟩
                    case measure => simp [intOf]; omega
                  · obtain ⟨g, hp0⟩ := hfo h0
                    subst hp0
                    clear hfo hnil
                    refine wp_region_ord (fun W => W.cell? ⟨wr.heap.size, 0, none⟩ = some (.int .i64 lo) ∧ W.cell? ⟨wr.heap.size, 1, none⟩ = some (.int .i64 hi) ∧ W.cell? ⟨A, 1, none⟩ = some (.slice (some ⟨g, 0, none⟩) bl.length cap) ∧ W.cell? ⟨C, k, none⟩ = some (.int .i64 ck)) 11 [(0, 0), (0, 1), (0, 2), (0, 3), (0, 4), (0, 5), (0, 7), (0, 8), (1, 6), (1, 9), (0, 10), (2, 11)] (by kernel_rfl) (by kernel_rfl) ⟨e0, e1, ea, ec⟩ ?_
                    simp only [opsOf, List.map_cons, List.map_nil, List.getElem?_cons_zero, List.getElem?_cons_succ]
                    repeat (refine wpOrd_take (v := ?_) (by rfl) ?_ (fun _ _ _ h => h) ?_; rotate_left; (focus (intro W hSw; (try dsimp only at hSw); go_simp; (try with_reducible rfl))); (try simp only [Act.put, List.setIfInBounds_toArray, List.set_cons_zero, List.set_cons_succ]))
                    refine wpOrd_eff (fun K hK => ?_)
                    go_simp
                    refine hK.out _ _ ⟨(HBA.out.cell (p := ⟨wr.heap.size, 0, none⟩) (by simp only; omega)).trans e0, (HBA.out.cell (p := ⟨wr.heap.size, 1, none⟩) (by simp only; omega)).trans e1, (HBA.out.cell (p := ⟨A, 1, none⟩) (by simp only; omega)).trans ea, (HBA.out.cell (p := ⟨C, k, none⟩) (by simp only; omega)).trans ec⟩ ?_
                    clear hK K
                    (try simp only [Act.put, List.setIfInBounds_toArray, List.set_cons_zero, List.set_cons_succ])
                    have hlb := lt_of_block (hMm.out.own.2.resolve_left (by simp)).choose_spec.choose_spec.choose_spec.2.2.1
                    have hadd : ∀ b j, (⟨b, 0, none⟩ : Addr).add j = ⟨b, j, none⟩ := fun b j => by unfold Addr.add; split <;> simp_all
                    have hnews : ∀ j u, (bedCells bl)[j]? = some u → (w2.alloc (.cells #[.int .i64 ck, .int .i64 lo, .int .i64 hi] 61)).drew.cell? ((⟨g, 0, none⟩ : Addr).add j) = some u := fun j u hu => by
                      have h1 := hMm.out.own.cells rfl j u hu
                      rw [hadd] at h1 ⊢
                      have hgl : g < wr.heap.size := (hMm.out.own.lt g rfl).2
                      exact (HBA.out.cell (p := ⟨g, j, none⟩) (by simp only; omega)).trans ((HBR.out.cell (p := ⟨g, j, none⟩) hgl).trans h1)
                    have HNEWS := Lib.hid hnews
                    clear hnews hadd
                    refine wpOrd_eff (fun K hK => ?_)
                    refine step_append_lies _ rfl (.tmp 112) (.tmp 114) 54 rfl wo.heap.size 61 inb _ 3 24 Try.underlying54 HIB.out HI0.out HI1.out HI2.out rfl (by decide) (.slice (some ⟨wr.heap.size + 1, 0, none⟩) 1 1) 1 [.int .i64 ck, .int .i64 lo, .int .i64 hi] rfl HOWN0.out ⟨g, 0, none⟩ bl.length cap (bedCells bl) rfl ?_ ?_ ?_ ?_ ?_ ?_ ?_ (wr.heap.size + 2) HZA.out ?_
                    · exact bedCells_length bl
                    · exact HNEWS.out
                    · exact bedCells_one _
                    · omega
                    · unfold maxLen; omega
                    · omega
                    · have := HZA.out; omega
                    intro g2 cap2 w4 hown4 hgrow4 hat4 hlt4
                    have hB4 : Below (wr.heap.size + 1) w2 w4 := HBA.out.trans (grown_below hgrow4 (by have := HZA.out; omega) (fun k hk => by simp [Value.ownBlock] at hk; omega))
                    have hgz4 : wr.heap.size + 2 ≤ w4.heap.size := by have := hgrow4.size; have := HZA.out; omega
                    have hg2 : wr.heap.size + 1 ≤ g2 := by
                      rcases hat4 with h | h
                      · simp [Value.ownBlock] at h; omega
                      · omega
                    clear hgrow4 hat4 hlb
                    have hz4 : wr.heap.size + 2 ≤ w4.heap.size := hgz4
                    have v0 : w4.cell? ⟨wr.heap.size, 0, none⟩ = some (.int .i64 lo) := (hB4.cell (p := ⟨wr.heap.size, 0, none⟩) (by simp only; omega)).trans e0
                    have v1 : w4.cell? ⟨wr.heap.size, 1, none⟩ = some (.int .i64 hi) := (hB4.cell (p := ⟨wr.heap.size, 1, none⟩) (by simp only; omega)).trans e1
                    have va : w4.cell? ⟨A, 1, none⟩ = some (.slice (some ⟨g, 0, none⟩) bl.length cap) := (hB4.cell (p := ⟨A, 1, none⟩) (by simp only; omega)).trans ea
                    have vc : w4.cell? ⟨C, k, none⟩ = some (.int .i64 ck) := (hB4.cell (p := ⟨C, k, none⟩) (by simp only; omega)).trans ec
                    have vf : w4.frozen? ⟨A, 1, none⟩ = false := by
                      have := (hB4.block A (by omega)).trans hAh
                      simp [World.frozen?, this]
                    refine hK.out _ _ ⟨v0, v1, va, vc⟩ ?_
                    clear hK K
                    (try simp only [Act.put, List.setIfInBounds_toArray, List.set_cons_zero, List.set_cons_succ])
                    have HB4 := Lib.hid hB4
                    have HOW4 := Lib.hid hown4
                    have HG4 := Lib.hid hgz4
                    clear hB4 hown4 hgz4
                    repeat (refine wpOrd_take (v := ?_) (by rfl) ?_ (fun _ _ _ h => h) ?_; rotate_left; (focus (intro W hSw; (try dsimp only at hSw); go_simp; (try with_reducible rfl))); (try simp only [Act.put, List.setIfInBounds_toArray, List.set_cons_zero, List.set_cons_succ]))
                    refine wpOrd_tail (fun K hK => ?_)
                    go_simp
                    refine hK.out _ _ ?_
                    clear hK K
                    refine wpOrd_done ?_
                    have hA5 : (w4.setCell ⟨A, 1, none⟩ (.slice (some ⟨g2, 0, none⟩) (1 + bl.length) cap2)).heap[A]? = some (.cells #[.int .i64 at0, .slice (some ⟨g2, 0, none⟩) (1 + bl.length) cap2] 56 (0, 0)) := setCell_block ((HB4.out.block A (by omega)).trans hAh)
                    obtain ⟨w5, hw5⟩ : ∃ w5, w4.setCell ⟨A, 1, none⟩ (.slice (some ⟨g2, 0, none⟩) (1 + bl.length) cap2) = w5 := ⟨_, rfl⟩
                    have hX5 : ∀ j, j ≠ A → w5.heap[j]? = w4.heap[j]? := fun j hj => by rw [← hw5]; exact Below.heap_setCell _ _ _ _ hj
                    have hz5 : w5.heap.size = w4.heap.size := by rw [← hw5]; simp [World.setCell]
                    have hs5 : Below A w4 w5 := by rw [← hw5]; exact (Below.refl _ _).setCell (by simp) _
                    rw [hw5] at hA5 ⊢
                    have u0 : w5.cell? ⟨wr.heap.size, 0, none⟩ = some (.int .i64 lo) := (World.cell?_of_block (a := ⟨wr.heap.size, 0, none⟩) (hX5 _ (by simp only; omega))).trans v0
                    have u1 : w5.cell? ⟨wr.heap.size, 1, none⟩ = some (.int .i64 hi) := (World.cell?_of_block (a := ⟨wr.heap.size, 1, none⟩) (hX5 _ (by simp only; omega))).trans v1
                    have hM5 : BMem wo.heap.size A C at0 wo w5 (some ⟨g2, 0, none⟩) cap2 (⟨ck, lo, hi⟩ :: bl) := by
                      have hln : (⟨ck, lo, hi⟩ :: bl : List PBed).length = (1 + bl.length) := by simp; omega
                      refine ⟨hMm.out.below.trans ((HBR.out.trans (HB4.out.mono (by omega))).mono hNr |>.trans (hs5.mono zA)), by rw [hln]; exact hA5, ?_, ?_, ?_, ?_, ?_⟩
                      · rw [hX5 C (Ne.symm hAC)]
                        exact (HB4.out.block C (by omega)).trans hCh
                      · rw [hln]
                        exact owns_same HOW4.out fun g hg => hX5 g (by simp [Value.ownBlock] at hg; omega)
                      · simp [Value.ownBlock]; omega
                      · simp [Value.ownBlock]; omega
                      · simp
                    have HM5 := Lib.hid hM5
                    have HZ5 : Hid (wc.heap.size ≤ w5.heap.size) := by unfold Hid; rw [hz5]; omega
                    clear hw5 hX5 hs5 hM5 v0 v1 va vc vf hA5 HOW4 HB4 HG4 e0 e1 ea ec hz4 hz5 hAh hCh
                    have hwa1 : IntKind.i64.wrap (su + lo) = su + lo := IntWalk.i64_in _ (by omega)
                    have hwa2 : IntKind.i64.wrap (sh + hi) = sh + hi := IntWalk.i64_in _ (by omega)
                    have hwa3 : IntKind.i64.wrap ((m : Int) + 1) = (m : Int) + 1 := IntWalk.i64_in _ (by omega)
                    go_wp2_with fail
                    refine wp_region_ord (fun W => W.cell? ⟨wr.heap.size, 0, none⟩ = some (.int .i64 lo) ∧ W.cell? ⟨wr.heap.size, 1, none⟩ = some (.int .i64 hi)) 13 [(0, 0), (0, 1), (0, 2), (0, 3), (0, 4), (0, 5), (0, 6), (0, 7), (0, 8), (0, 9), (0, 10), (0, 11), (0, 12)] (by kernel_rfl) (by kernel_rfl) ⟨u0, u1⟩ ?_
                    simp only [opsOf, List.map_cons, List.map_nil, List.getElem?_cons_zero, List.getElem?_cons_succ]
                    repeat (refine wpOrd_take (v := ?_) (by rfl) ?_ (fun _ _ _ h => h) ?_; rotate_left; (focus (intro W hSw; (try dsimp only at hSw); go_simp; (try with_reducible rfl))); (try simp only [Act.put, List.setIfInBounds_toArray, List.set_cons_zero, List.set_cons_succ]))
                    refine wpOrd_done ?_
                    clear hwa1 hwa2 hwa3 u0 u1
                    go_wp2
                    go_roundw
                    case rel =>
                      refine ⟨m + 1, k, ⟨ck, lo, hi⟩ :: bl, some ⟨g2, 0, none⟩, cap2, by go_num, by rw [AimP.lows, HSU.out]; exact congrArg (Value.int .i64) (by simp only; omega), by rw [AimP.highs, HSH.out]; exact congrArg (Value.int .i64) (by simp only; omega), rfl, by rw [HMN.out]; simp; omega, hI.out.cons hlt HCK.out (by omega) (by omega) (by omega) (by rw [HSU.out]; omega), ?_, HZ5.out⟩
                      have := HM5.out
                      exact ⟨this.below.trans ⟨rfl, rfl, rfl, Nat.le_refl _, fun _ _ => rfl⟩, this.aim, this.all, this.own, this.na, this.nc, this.nil⟩
                    case measure => simp [intOf]; omega
              · have hne : bl ≠ [] := by
                  intro h0
                  subst h0
                  exact hI.out.full (by simp at hq; omega) rfl
                go_upto_region 11 with (fail)
                go_cut [73] (fun c wx => c = .bool false ∧ wx = wr)
                case first =>
                  by_cases hq1 : 1 ≤ q
                  · have hk0 : (0 : Int) ≤ (q : Int) - 1 := by omega
                    have hk1 : (1 : Int) ≤ (q : Int) := by omega
                    have hl5 : ¬ (bl.length : Int) < 5 := by omega
                    go_wp2
                    go_meet
                    exact ⟨rfl, rfl⟩
                  · have hk0 : ¬ (0 : Int) ≤ (q : Int) - 1 := by omega
                    have hk1 : ¬ (1 : Int) ≤ (q : Int) := by omega
                    go_wp2
                    go_meet
                    exact ⟨rfl, rfl⟩
                case rest =>
                  obtain ⟨rfl, rfl⟩ := hcut
                  obtain ⟨wz, rfl⟩ : ∃ wz : World, wz = wc := ⟨_, rfl⟩
                  have hpos : 0 < bl.length := List.length_pos_iff.2 hne
                  obtain ⟨g, cp, hpe, hg1, hg2⟩ := hMm.out.own.form hpos
                  simp only [Value.slice.injEq] at hpe
                  obtain ⟨rfl, _, rfl⟩ := hpe
                  have hNz : wo.heap.size ≤ wz.heap.size := hMm.out.below.size
                  have y0 : wz.cell? ⟨A, 0, none⟩ = some (.int .i64 at0) := by simp [World.cell?, hMm.out.aim]
                  have r2 : wz.cell? ⟨w.heap.size + 2, 1, none⟩ = some v := by
                    have := (hMm.out.below.block (w.heap.size + 2) (by omega)).trans q2.out
                    simp [World.cell?, this]
                  have rf : wz.frozen? ⟨w.heap.size + 2, 1, none⟩ = false := by
                    have := (hMm.out.below.block (w.heap.size + 2) (by omega)).trans q2.out
                    simp [World.frozen?, this]
                  have hCoW : Hid (OwnLaw (w.heap.size + 3) wz v L) := hCo.out.below hMm.out.below (Nat.le_refl _)
                  obtain ⟨ina, hia, ha0, ha1, ha2⟩ := info_parts infoAim
                  have HIA := Lib.hid hia
                  have HA0 := Lib.hid ha0
                  have HA1 := Lib.hid ha1
                  have HA2 := Lib.hid ha2
                  have HGO : Hid (i < most) := by
                    rcases hgo with h | h
                    · show i < most; omega
                    · exact h.2
                  have HLI : Hid (L.length = i ∧ i ≤ 20) := ⟨hLi.out, by have := HGO.out; omega⟩
                  have HWO : Hid (Below wo.heap.size wo wz) := hMm.out.below
                  clear hia ha0 ha1 ha2
                  by_cases hh : highs bl < 24
                  · obtain ⟨xx, bl', rfl⟩ : ∃ xx bl', bl = xx :: bl' := by
                      cases bl with
                      | nil => exact absurd rfl hne
                      | cons xx bl' => exact ⟨xx, bl', rfl⟩
                    obtain ⟨hI2, hh2, hv0, hv1⟩ := hI.out.fill hh
                    have hxs := hI.out.small xx (List.mem_cons_self ..)
                    have hshb := highs_le (xx :: bl') hI.out.small
                    have hl5 := hI.out.len
                    have HFULL := Lib.hid (aimFull_of hI2 (by simp) hat.out hh2)
                    have hxc : wz.cell? ⟨g, 2, none⟩ = some (.int .i64 xx.high) := by
                      have := hMm.out.own.cells rfl 2 (.int .i64 xx.high) rfl
                      have hadd : (⟨g, 0, none⟩ : Addr).add 2 = ⟨g, 2, none⟩ := by unfold Addr.add; split <;> simp_all
                      rwa [hadd] at this
                    have hxf : wz.frozen? ⟨g, 2, none⟩ = false := World.ownsRow.frozenAt hMm.out.own 2
                    have hst := (World.ownsRow.stored (w := wz) hMm.out.own 2 (.int .i64 (xx.high + 24 - highs (xx :: bl')))).1
                    rw [show (bedCells (xx :: bl')).set 2 (.int .i64 (xx.high + 24 - highs (xx :: bl'))) = bedCells (⟨xx.bed, xx.low, xx.high + 24 - highs (xx :: bl')⟩ :: bl') from rfl] at hst
                    have hga : g ≠ A := fun e => hMm.out.na (by rw [e]; rfl)
                    have hlen2 : ((xx :: bl').length : Int) = (bl'.length : Int) + 1 := by simp
                    obtain ⟨ln, hln⟩ : ∃ ln, (xx :: bl').length = ln := ⟨_, rfl⟩
                    have hln0 : 0 < ln := by rw [← hln]; simp
                    obtain ⟨sh, hsh⟩ : ∃ sh, highs (xx :: bl') = sh := ⟨_, rfl⟩
                    obtain ⟨xh, hxh⟩ : ∃ xh, xx.high = xh := ⟨_, rfl⟩
                    have HLN2 : Hid ((⟨xx.bed, xx.low, xh + 24 - sh⟩ :: bl' : List PBed).length = ln) := by rw [← hln]; rfl
                    have HMN2 : Hid (m = n + ln) := by rw [← hln]; exact HMN.out
                    rw [hsh, hxh] at hst HFULL hv0 hv1
                    rw [hsh] at hshb hh
                    rw [hsh]
                    rw [hxh] at hxc hxs
                    rw [hln] at hst y1 hshb hl5
                    obtain ⟨bl2, hbl2⟩ : ∃ bl2 : List PBed, (⟨xx.bed, xx.low, xh + 24 - sh⟩ :: bl') = bl2 := ⟨_, rfl⟩
                    rw [hbl2] at hst HFULL HLN2
                    have HST := Lib.hid hst
                    have hbel : ∀ u, Below wo.heap.size wo (wz.setCell ⟨g, 2, none⟩ u).drew := fun u => hMm.out.below.trans (((Below.refl _ wz).setCell (p := ⟨g, 2, none⟩) hg1 u).trans ⟨rfl, rfl, rfl, Nat.le_refl _, fun _ _ => rfl⟩)
                    have HBEL := Lib.hid hbel
                    have hq2z := (hMm.out.below.block (w.heap.size + 2) (by omega)).trans q2.out
                    have hAz := hMm.out.aim
                    rw [hln] at hAz
                    have HAZ := Lib.hid hAz
                    clear hI2 hh2 hst hln hsh hxh hbl2 hMm hI HMN hlen2 hbel hAz hCoW hpos hne HWO
                    have hMm := HMN2
                    have HMN := HMN2
                    clear HMN2 hMm
                    have hlnz : (0 : Int) < (ln : Int) := by omega
                    have hwA : IntKind.i64.wrap (xh + 24) = xh + 24 := IntWalk.i64_in _ (by omega)
                    have hwB : IntKind.i64.wrap (xh + 24 - sh) = xh + 24 - sh := IntWalk.i64_in _ (by omega)
                    have hmn : min 24 (xh + 24 - sh) = xh + 24 - sh := by omega
                    go_wp2_with fail
                    refine wp_region_ord (fun W => W.cell? ⟨A, 1, none⟩ = some (.slice (some ⟨g, 0, none⟩) ln cap) ∧ W.cell? ⟨g, 2, none⟩ = some (.int .i64 xh)) 15 [(0, 0), (0, 1), (0, 2), (0, 3), (0, 4), (0, 5), (0, 6), (0, 7), (0, 8), (0, 9), (0, 10), (0, 11), (0, 12), (0, 13), (0, 14), (2, 15)] (by kernel_rfl) (by kernel_rfl) ⟨y1, hxc⟩ ?_
                    simp only [opsOf, List.map_cons, List.map_nil, List.getElem?_cons_zero, List.getElem?_cons_succ]
                    repeat (refine wpOrd_take (v := ?_) (by rfl) ?_ (fun _ _ _ h => h) ?_; rotate_left; (focus (intro W hSw; (try dsimp only at hSw); go_simp; (try with_reducible rfl))); (try simp only [Act.put, List.setIfInBounds_toArray, List.set_cons_zero, List.set_cons_succ]))
                    refine wpOrd_tail (fun K hK => ?_)
                    go_simp
                    refine hK.out _ _ ?_
                    clear hK K
                    refine wpOrd_done ?_
                    obtain ⟨wy, hwy⟩ : ∃ wy, (wz.setCell ⟨g, 2, none⟩ (.int .i64 (xh + 24 - sh))).drew = wy := ⟨_, rfl⟩
                    have HWO : Hid (Below wo.heap.size wo wy) := by rw [← hwy]; exact HBEL.out _
                    have hyo : ∀ j, j ≠ g → wy.heap[j]? = wz.heap[j]? := fun j hj => by rw [← hwy]; exact Below.heap_setCell wz ⟨g, 2, none⟩ _ j hj
                    have hzy : wy.heap.size = wz.heap.size := by rw [← hwy]; show (wz.setCell _ _).heap.size = _; simp [World.setCell]
                    have hAy := (hyo A (Ne.symm hga)).trans HAZ.out
                    have hq2y := (hyo (w.heap.size + 2) (by omega)).trans hq2z
                    have k0 : wy.cell? ⟨A, 0, none⟩ = some (.int .i64 at0) := by simp [World.cell?, hAy]
                    have k1 : wy.cell? ⟨A, 1, none⟩ = some (.slice (some ⟨g, 0, none⟩) ln cap) := by simp [World.cell?, hAy]
                    have k2 : wy.cell? ⟨w.heap.size + 2, 1, none⟩ = some v := by simp [World.cell?, hq2y]
                    have k3 : wy.frozen? ⟨w.heap.size + 2, 1, none⟩ = false := by simp [World.frozen?, hq2y]
                    have HOWB : Hid (wy.ownsRow wo.heap.size 61 3 (.slice (some ⟨g, 0, none⟩) bl2.length cap) bl2.length (bedCells bl2)) := by
                      unfold Hid
                      rw [HLN2.out, ← hwy]
                      exact HST.out
                    have hCoW : Hid (OwnLaw (w.heap.size + 3) wy v L) := hCo.out.below HWO.out (Nat.le_refl _)
                    have hNy : wo.heap.size ≤ wy.heap.size := by omega
                    rw [hwy]
                    clear hzy hwy hyo hAy hq2y y0 y1 r2 rf hxc hxf HST HBEL HAZ hwA hwB hmn hq2z
                    have y0 := k0
                    have y1 := k1
                    have r2 := k2
                    have rf := k3
                    clear k0 k1 k2 k3
                    have hown3 : ∀ o, (wy.alloc o).ownsRow (w.heap.size + 3) 56 2 v L.length (aimCells L) := fun o => (hCoW.out.own).alloc o
                    have hbedsW : wy.ownsRow (w.heap.size + 3) 61 3 (.slice (some ⟨g, 0, none⟩) bl2.length cap) bl2.length (bedCells bl2) := World.ownsRow.mono HOWB.out zr
                    have hadd : ∀ b j, (⟨b, 0, none⟩ : Addr).add j = ⟨b, j, none⟩ := fun b j => by unfold Addr.add; split <;> simp_all
                    have hnews : ∀ (j : Nat) (u : Value), [Value.int .i64 (at0 : Int), .slice (some ⟨g, 0, none⟩) ln cap][j]? = some u → (wy.alloc (.cells #[.int .i64 at0, .slice (some ⟨g, 0, none⟩) ln cap] 56)).cell? ((⟨wy.heap.size, 0, none⟩ : Addr).add j) = some u := fun j u hu => by
                      rw [hadd, cell_new wy _ _ _ _ _ rfl]
                      simpa using hu
                    have HWN3 := Lib.hid hown3
                    have HNEWS := Lib.hid hnews
                    have HBW := Lib.hid hbedsW
                    clear hown3 hnews hbedsW hadd
                    go_wp2_with (at_builtin; refine wpList_append_lies _ rfl (.tmp 146) (.tmp 148) 26 rfl (w.heap.size + 3) 56 ina _ 2 32 Try.underlying26 HIA.out HA0.out HA1.out HA2.out rfl (by decide) v L.length (aimCells L) rfl (HWN3.out _) ⟨wy.heap.size, 0, none⟩ 1 1 [.int .i64 at0, .slice (some ⟨g, 0, none⟩) ln cap] rfl rfl HNEWS.out (by simp [Value.oneCell']) (by omega) (by have := HLI.out; unfold maxLen; omega) (by have := HLI.out; omega) (by simp; omega) (wy.heap.size + 1) (by simp) ?_)
                    intro g2 cap2 w4 hown4 hgrow4 hat4 hlt4
                    have hB4 : Below (w.heap.size + 3) wy w4 := ((Below.refl _ wy).alloc (by omega) _).trans (grown_below hgrow4 (by simp; omega) (fun k hk => (hCoW.out.own.lt k hk).1))
                    have u2 := (hB4.cell (p := ⟨w.heap.size + 2, 1, none⟩) (by simp only; omega)).trans r2
                    have hf4 := (hB4.frozen (p := ⟨w.heap.size + 2, 1, none⟩) (by simp only; omega)).trans rf
                    have hz4 : w.heap.size + 3 ≤ w4.heap.size := by have := hB4.size; omega
                    have HLNN := HLN2.out
                    have hO4 := hCo.out.snoc (W3 := wy.alloc (.cells #[.int .i64 at0, .slice (some ⟨g, 0, none⟩) ln cap] 56)) (W4 := w4) (x := ((at0 : Int), bl2)) (g1 := g) (c1 := cap) (g2 := g2) (c2 := cap2)
                      (HWO.out.trans ((Below.refl _ wy).alloc (by omega) _)) (by omega) (by exact HBW.out.alloc _) hgrow4 (by have h := hown4; rw [← HLNN] at h; exact h) (hat4.imp id fun h => by rw [World.size_alloc]; omega)
                    have HO4 := Lib.hid hO4
                    have HB4 := Lib.hid hB4
                    clear hown4 hgrow4 hat4 hO4 hB4 hlt4
                    go_wp2
                    go_roundw
                    case rel =>
                      have hbs : Below (w.heap.size + 2) w4 (w4.setCell ⟨w.heap.size + 1 + 1, 1, none⟩ (.slice (some ⟨g2, 0, none⟩) (L.length + 1) cap2)) := (Below.refl _ _).setCell (by simp) _
                      have hWw : Below (w.heap.size + 3) wo w4 := (HWO.out.mono zr).trans HB4.out
                      refine ⟨i + 1, m, .slice (some ⟨g2, 0, none⟩) (L.length + 1) cap2, L ++ [(((at0 : Int), bl2), (g, cap))], by go_num, rfl, by have := HGO.out; omega, by have := HMN.out; omega, hBr.out.trans ((hWw.mono (by omega)).trans (hbs.mono (by omega))), ?_, ?_, ?_, ?_, ?_, ?_, by simpa [World.setCell] using hz4⟩
                      · exact (hbs.block _ (by omega)).trans ((hWw.block _ (by omega)).trans q0.out)
                      · exact (hbs.block _ (by omega)).trans ((hWw.block _ (by omega)).trans q1.out)
                      · exact setCell_block ((hWw.block _ (by omega)).trans q2.out)
                      · exact HO4.out.same fun k hk _ => Below.heap_setCell _ _ _ _ (by simp only; omega)
                      · show (L ++ [(((at0 : Int), bl2), (g, cap))]).length = i + 1
                        simp [hLi.out]
                      · show ∀ a ∈ L ++ [(((at0 : Int), bl2), (g, cap))], AimFull 24 a.1
                        intro a ha
                        rcases List.mem_append.1 ha with ha | ha
                        · exact hAF.out a ha
                        · rw [List.mem_singleton] at ha
                          subst ha
                          exact HFULL.out
                    case measure => have := HGO.out; simp [intOf]; omega
                  · have HFULL := Lib.hid (aimFull_of hI.out hne hat.out (by omega))
                    have HOWB := Lib.hid hMm.out.own
                    have hown3 : ∀ o, (wz.alloc o).ownsRow (w.heap.size + 3) 56 2 v L.length (aimCells L) := fun o => (hCoW.out.own).alloc o
                    have hbedsW : wz.ownsRow (w.heap.size + 3) 61 3 (.slice (some ⟨g, 0, none⟩) bl.length cap) bl.length (bedCells bl) := World.ownsRow.mono HOWB.out zr
                    have hadd : ∀ b j, (⟨b, 0, none⟩ : Addr).add j = ⟨b, j, none⟩ := fun b j => by unfold Addr.add; split <;> simp_all
                    have hnews : ∀ (j : Nat) (u : Value), [Value.int .i64 (at0 : Int), .slice (some ⟨g, 0, none⟩) bl.length cap][j]? = some u → (wz.alloc (.cells #[.int .i64 at0, .slice (some ⟨g, 0, none⟩) bl.length cap] 56)).cell? ((⟨wz.heap.size, 0, none⟩ : Addr).add j) = some u := fun j u hu => by
                      rw [hadd, cell_new wz _ _ _ _ _ rfl]
                      simpa using hu
                    have HOWN3 := Lib.hid hown3
                    have HNEWS := Lib.hid hnews
                    have HBW := Lib.hid hbedsW
                    clear hown3 hnews hbedsW hadd
                    go_wp2_with (at_builtin; refine wpList_append_lies _ rfl (.tmp 146) (.tmp 148) 26 rfl (w.heap.size + 3) 56 ina _ 2 32 Try.underlying26 HIA.out HA0.out HA1.out HA2.out rfl (by decide) v L.length (aimCells L) rfl (HOWN3.out _) ⟨wz.heap.size, 0, none⟩ 1 1 [.int .i64 at0, .slice (some ⟨g, 0, none⟩) bl.length cap] rfl rfl HNEWS.out (by simp [Value.oneCell']) (by omega) (by have := HLI.out; unfold maxLen; omega) (by have := HLI.out; omega) (by simp; omega) (wz.heap.size + 1) (by simp) ?_)
                    intro g2 cap2 w4 hown4 hgrow4 hat4 hlt4
                    have hB4 : Below (w.heap.size + 3) wz w4 := ((Below.refl _ wz).alloc (by omega) _).trans (grown_below hgrow4 (by simp; omega) (fun k hk => (hCoW.out.own.lt k hk).1))
                    have u2 := (hB4.cell (p := ⟨w.heap.size + 2, 1, none⟩) (by simp only; omega)).trans r2
                    have hf4 := (hB4.frozen (p := ⟨w.heap.size + 2, 1, none⟩) (by simp only; omega)).trans rf
                    have hz4 : w.heap.size + 3 ≤ w4.heap.size := by have := hB4.size; omega
                    have hO4 := hCo.out.snoc (W3 := wz.alloc (.cells #[.int .i64 at0, .slice (some ⟨g, 0, none⟩) bl.length cap] 56)) (W4 := w4) (x := ((at0 : Int), bl)) (g1 := g) (c1 := cap) (g2 := g2) (c2 := cap2)
                      (HWO.out.trans ((Below.refl _ wz).alloc (by omega) _)) (by omega) (by exact HBW.out.alloc _) hgrow4 hown4 (hat4.imp id fun h => by rw [World.size_alloc]; omega)
                    have HO4 := Lib.hid hO4
                    have HB4 := Lib.hid hB4
                    clear hown4 hgrow4 hat4 hO4 hB4 hlt4
                    go_wp2
                    go_roundw
                    case rel =>
                      have hbs : Below (w.heap.size + 2) w4 (w4.setCell ⟨w.heap.size + 1 + 1, 1, none⟩ (.slice (some ⟨g2, 0, none⟩) (L.length + 1) cap2)) := (Below.refl _ _).setCell (by simp) _
                      have hWw : Below (w.heap.size + 3) wo w4 := (HWO.out.mono zr).trans HB4.out
                      refine ⟨i + 1, m, .slice (some ⟨g2, 0, none⟩) (L.length + 1) cap2, L ++ [(((at0 : Int), bl), (g, cap))], by go_num, rfl, by have := HGO.out; omega, by have := HMN.out; omega, hBr.out.trans ((hWw.mono (by omega)).trans (hbs.mono (by omega))), ?_, ?_, ?_, ?_, ?_, ?_, by simpa [World.setCell] using hz4⟩
                      · exact (hbs.block _ (by omega)).trans ((hWw.block _ (by omega)).trans q0.out)
                      · exact (hbs.block _ (by omega)).trans ((hWw.block _ (by omega)).trans q1.out)
                      · exact setCell_block ((hWw.block _ (by omega)).trans q2.out)
                      · exact HO4.out.same fun k hk _ => Below.heap_setCell _ _ _ _ (by simp only; omega)
                      · show (L ++ [(((at0 : Int), bl), (g, cap))]).length = i + 1
                        simp [hLi.out]
                      · show ∀ a ∈ L ++ [(((at0 : Int), bl), (g, cap))], AimFull 24 a.1
                        intro a ha
                        rcases List.mem_append.1 ha with ha | ha
                        · exact hAF.out a ha
                        · rw [List.mem_singleton] at ha
                          subst ha
                          exact HFULL.out
                    case measure => have := HGO.out; simp [intOf]; omega
    · have hi1 : 1 ≤ i := by omega
      have e0 : ((i : Int) == 0) = false := by rw [beq_eq_false_iff_ne]; omega
      have hLl := hLi.out
      obtain ⟨g, cap, hv, hg1, hg2⟩ := hCo.out.own.form (by omega)
      subst hv
      have HQ1 := Lib.hid q1.out
      have x1 : wr.cell? ⟨w.heap.size + 2, 0, none⟩ = some (.int .i64 24) := by simp [World.cell?, q2.out]
      have x2 : wr.cell? ⟨w.heap.size + 2, 1, none⟩ = some (.slice (some ⟨g, 0, none⟩) L.length cap) := by simp [World.cell?, q2.out]
      have x3 : wr.cell? ⟨w.heap.size + 2, 2, none⟩ = some (.int .i64 (2 + (s5 : Int))) := by simp [World.cell?, q2.out]
      have x4 : wr.cell? ⟨w.heap.size + 2, 3, none⟩ = some (.int .i64 o3) := by simp [World.cell?, q2.out]
      have n0 : wr.cell? ⟨w.heap.size + 1, 0, none⟩ = some (.int .i64 0) := by simp [World.cell?, q1.out]
      have n1 : wr.cell? ⟨w.heap.size + 1, 1, none⟩ = some (.slice none 0 0) := by simp [World.cell?, q1.out]
      have n2 : wr.cell? ⟨w.heap.size + 1, 2, none⟩ = some (.int .i64 0) := by simp [World.cell?, q1.out]
      have n3 : wr.cell? ⟨w.heap.size + 1, 3, none⟩ = some (.int .i64 0) := by simp [World.cell?, q1.out]
      have m0 : wr.frozen? ⟨w.heap.size + 1, 0, none⟩ = false := by simp [World.frozen?, q1.out]
      have m1 : wr.frozen? ⟨w.heap.size + 1, 1, none⟩ = false := by simp [World.frozen?, q1.out]
      have m2 : wr.frozen? ⟨w.heap.size + 1, 2, none⟩ = false := by simp [World.frozen?, q1.out]
      have m3 : wr.frozen? ⟨w.heap.size + 1, 3, none⟩ = false := by simp [World.frozen?, q1.out]
      have HLI := Lib.hid hLl
      have hcs : i < nw ∨ ¬ i < nw := by omega
      have hz1 : ¬ (i < nw ∧ i < most) := fun h => hgo (.inr h)
      clear hLl q1 q2
      rcases hcs with hin | hin
      · have hmi : ¬ (i : Int) < (most : Int) := by omega
        have hin2 : (i : Int) < (nw : Int) := by omega
        have hmi' : ¬ i < most := by omega
        clear hz1 hgo
        go_wp2
        obtain ⟨wz, hwz⟩ : ∃ wz, (((wr.setCell ⟨w.heap.size + 1, 0, none⟩ (.int .i64 24)).setCell ⟨w.heap.size + 1, 1, none⟩ (.slice (some ⟨g, 0, none⟩) L.length cap)).setCell ⟨w.heap.size + 1, 2, none⟩ (.int .i64 (2 + (s5 : Int)))).setCell ⟨w.heap.size + 1, 3, none⟩ (.int .i64 o3) = wz := ⟨_, rfl⟩
        have hbk : wz.heap[w.heap.size + 1]? = some (.cells #[.int .i64 24, .slice (some ⟨g, 0, none⟩) L.length cap, .int .i64 (2 + (s5 : Int)), .int .i64 o3] 31 (0, 0)) := by
          rw [← hwz]
          exact setCell_block (setCell_block (setCell_block (setCell_block HQ1.out)))
        have hbz : Below (w.heap.size + 1) wr wz := by rw [← hwz]; exact ((((Below.refl _ _).setCell (by simp) _).setCell (by simp) _).setCell (by simp) _).setCell (by simp) _
        have hoz : OwnLaw (w.heap.size + 3) wz (.slice (some ⟨g, 0, none⟩) L.length cap) L := by
          refine hCo.out.same fun k hk _ => ?_
          rw [← hwz]
          rw [Below.heap_setCell _ _ _ _ (by simp only; omega), Below.heap_setCell _ _ _ _ (by simp only; omega), Below.heap_setCell _ _ _ _ (by simp only; omega), Below.heap_setCell _ _ _ _ (by simp only; omega)]
        rw [hwz]
        have y0 : wz.cell? ⟨w.heap.size + 1, 0, none⟩ = some (.int .i64 24) := by simp [World.cell?, hbk]
        have y1 : wz.cell? ⟨w.heap.size + 1, 1, none⟩ = some (.slice (some ⟨g, 0, none⟩) L.length cap) := by simp [World.cell?, hbk]
        have y2 : wz.cell? ⟨w.heap.size + 1, 2, none⟩ = some (.int .i64 (2 + (s5 : Int))) := by simp [World.cell?, hbk]
        have y3 : wz.cell? ⟨w.heap.size + 1, 3, none⟩ = some (.int .i64 o3) := by simp [World.cell?, hbk]
        refine bodyPost_ret (v := .agg #[.int .i64 24, .slice (some ⟨g, 0, none⟩) L.length cap, .int .i64 (2 + (s5 : Int)), .int .i64 o3]) ?_ rfl ?_
        · simp [results, Try.results12, go_sem, y0, y1, y2, y3]
        · have hll := HLI.out
          refine ⟨⟨24, L.map (·.1), 2 + s5, o3⟩, L, g, cap, ?_, rfl, ⟨by simp only; omega, by simp only; omega, by simp only [List.length_map]; omega, by simp only [List.length_map]; omega, fun a ha => ?_, by simp only; omega, by simp only; omega, by simp only; omega, by simp only; omega⟩, fun a ha => ?_, by simp only [List.length_map]; omega, rfl, hBr.out.trans (hbz.mono (by omega)), ?_, rfl⟩
          · simp [rulesV]
          · obtain ⟨x, hx, rfl⟩ := List.mem_map.1 ha
            exact (hAF.out x hx).ok
          · obtain ⟨x, hx, rfl⟩ := List.mem_map.1 ha
            exact hAF.out x hx
          · simp only [List.length_map]
            exact hoz.mono (by omega)
      · have hin2 : ¬ (i : Int) < (nw : Int) := by omega
        clear hz1 hgo
        go_wp2
        obtain ⟨wz, hwz⟩ : ∃ wz, (((wr.setCell ⟨w.heap.size + 1, 0, none⟩ (.int .i64 24)).setCell ⟨w.heap.size + 1, 1, none⟩ (.slice (some ⟨g, 0, none⟩) L.length cap)).setCell ⟨w.heap.size + 1, 2, none⟩ (.int .i64 (2 + (s5 : Int)))).setCell ⟨w.heap.size + 1, 3, none⟩ (.int .i64 o3) = wz := ⟨_, rfl⟩
        have hbk : wz.heap[w.heap.size + 1]? = some (.cells #[.int .i64 24, .slice (some ⟨g, 0, none⟩) L.length cap, .int .i64 (2 + (s5 : Int)), .int .i64 o3] 31 (0, 0)) := by
          rw [← hwz]
          exact setCell_block (setCell_block (setCell_block (setCell_block HQ1.out)))
        have hbz : Below (w.heap.size + 1) wr wz := by rw [← hwz]; exact ((((Below.refl _ _).setCell (by simp) _).setCell (by simp) _).setCell (by simp) _).setCell (by simp) _
        have hoz : OwnLaw (w.heap.size + 3) wz (.slice (some ⟨g, 0, none⟩) L.length cap) L := by
          refine hCo.out.same fun k hk _ => ?_
          rw [← hwz]
          rw [Below.heap_setCell _ _ _ _ (by simp only; omega), Below.heap_setCell _ _ _ _ (by simp only; omega), Below.heap_setCell _ _ _ _ (by simp only; omega), Below.heap_setCell _ _ _ _ (by simp only; omega)]
        rw [hwz]
        have y0 : wz.cell? ⟨w.heap.size + 1, 0, none⟩ = some (.int .i64 24) := by simp [World.cell?, hbk]
        have y1 : wz.cell? ⟨w.heap.size + 1, 1, none⟩ = some (.slice (some ⟨g, 0, none⟩) L.length cap) := by simp [World.cell?, hbk]
        have y2 : wz.cell? ⟨w.heap.size + 1, 2, none⟩ = some (.int .i64 (2 + (s5 : Int))) := by simp [World.cell?, hbk]
        have y3 : wz.cell? ⟨w.heap.size + 1, 3, none⟩ = some (.int .i64 o3) := by simp [World.cell?, hbk]
        refine bodyPost_ret (v := .agg #[.int .i64 24, .slice (some ⟨g, 0, none⟩) L.length cap, .int .i64 (2 + (s5 : Int)), .int .i64 o3]) ?_ rfl ?_
        · simp [results, Try.results12, go_sem, y0, y1, y2, y3]
        · have hll := HLI.out
          refine ⟨⟨24, L.map (·.1), 2 + s5, o3⟩, L, g, cap, ?_, rfl, ⟨by simp only; omega, by simp only; omega, by simp only [List.length_map]; omega, by simp only [List.length_map]; omega, fun a ha => ?_, by simp only; omega, by simp only; omega, by simp only; omega, by simp only; omega⟩, fun a ha => ?_, by simp only [List.length_map]; omega, rfl, hBr.out.trans (hbz.mono (by omega)), ?_, rfl⟩
          · simp [rulesV]
          · obtain ⟨x, hx, rfl⟩ := List.mem_map.1 ha
            exact (hAF.out x hx).ok
          · obtain ⟨x, hx, rfl⟩ := List.mem_map.1 ha
            exact hAF.out x hx
          · simp only [List.length_map]
            exact hoz.mono (by omega)

end Go.Proofs.Ytnaehbgmfajdjaa
