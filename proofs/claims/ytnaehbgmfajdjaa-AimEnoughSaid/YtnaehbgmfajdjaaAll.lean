/- all and Check of package throw; Check of package aim: valid rules are found valid. -/
import Derived.Test.YtnaehbgmfajdjaaCheck
import Derived.Test.YtnaehbgmfajdjaaRangeA
import Derived.Test.YtnaehbgmfajdjaaAimI
namespace Go.Proofs.Ytnaehbgmfajdjaa
open Go.RowKit AimP

def atOf (l : List (Int × List PBed)) (k : Nat) : Int := (l[k]?.map (·.1)).getD 0
def lenOf (l : List (Int × List PBed)) (k : Nat) : Nat := (l[k]?.map (·.2.length)).getD 0

/-- The value of an aim with its den. -/
def chanceV (l : List (Int × List PBed)) (den : Int) (bf of cf : Nat → Nat) (k : Nat) : Value := .agg #[.int .i64 (atOf l k), .slice (some ⟨bf k, of k, none⟩) (lenOf l k) (cf k), .int .i64 den]

structure AllG (c ba oa ca : Nat) (den : Int) (l : List (Int × List PBed)) (bf of cf : Nat → Nat) (W : World) : Prop where
  lt : c < W.heap.size
  c0 : W.cell? ⟨c, 0, none⟩ = some (.int .i64 den)
  c1 : W.cell? ⟨c, 1, none⟩ = some (.slice (some ⟨ba, oa, none⟩) l.length ca)
  lb : ba < W.heap.size
  ats : ∀ i, i < l.length → W.cell? ⟨ba, oa + i*2, none⟩ = some (.int .i64 (atOf l i)) ∧ W.cell? ⟨ba, oa + i*2 + 1, none⟩ = some (.slice (some ⟨bf i, of i, none⟩) (lenOf l i) (cf i))

def AllOwn (W W' : World) : Prop := Below W.heap.size W W'

attribute [local go_sem] Oper.semAt_some

set_option maxRecDepth 100000 in
set_option maxHeartbeats 1000000 in
theorem all_iter (c ba oa ca : Nat) (den : Int) (l : List (Int × List PBed)) (bf of cf : Nat → Nat) (hl : l.length ≤ 20) :
    Iter Try.prog 166 #[] #[.pointer (some ⟨c, 0, none⟩)] l.length (fun k => #[.int .i64 (k : Int), chanceV l den bf of cf k]) (AllG c ba oa ca den l bf of cf) AllOwn := by
  intro lp J Jx hG hOwn hY W hJ
  have HG := Lib.hid hG
  have HOWN := Lib.hid hOwn
  obtain ⟨at', hat⟩ : ∃ f, atOf l = f := ⟨_, rfl⟩
  obtain ⟨ln, hln⟩ : ∃ f, lenOf l = f := ⟨_, rfl⟩
  unfold chanceV at hY
  rw [hat, hln] at hY
  have HY := Lib.hid hY
  have g := hG 0 W hJ
  have g1 := g.c1
  have hat2 := fun k W (h : J k W) => (hG k W h).ats
  rw [hat, hln] at hat2
  have HAT := Lib.hid hat2
  have HJ := Lib.hid hJ
  clear hG hOwn hY hJ hat2 hat hln g
  rw [Array.empty_append]
  refine callsIn_of_wp Try.func166 rfl trivial ?_ rfl
  simp only [Try.ntmps166, List.size_toArray, List.length_cons, List.length_nil, Nat.reduceAdd, Nat.reduceSub, Array.replicate_succ, Array.replicate_zero, List.push_toArray, List.append_toArray, List.nil_append, List.cons_append]
  gi_wp2
  gi_loopw [8] (fun vk wr => ∃ k : Nat, k ≤ l.length ∧ vk = .int .i64 k ∧ Hid (J k wr)) (fun vk _ => l.length - (intOf vk).toNat)
  case atStart => exact ⟨0, by omega, rfl, HJ.out⟩
  case round =>
    obtain ⟨k, hk, rfl, hJk⟩ := hrel
    clear g1
    by_cases hkt : k < l.length
    · have g := HG.out k wr hJk.out
      have q0 := g.c0
      have q1 := g.c1
      have q2 := g.lt
      have q3 := g.lb
      obtain ⟨q4, q5⟩ := HAT.out k wr hJk.out k hkt
      have hstep : ∀ w2, Below wr.heap.size wr w2 → J k w2 := fun w2 h => HOWN.out k wr w2 hJk.out h
      have HS := Lib.hid hstep
      clear g hstep
      gi_wp2_with fail
      obtain ⟨wb, hwb⟩ : ∃ wb, wr.alloc (Obj.cells #[.int .i64 (at' k), .slice (some ⟨bf k, of k, none⟩) (ln k) (cf k)] 56) = wb := ⟨_, rfl⟩
      have hbb : Below wr.heap.size wr wb := by rw [← hwb]; exact (Below.refl _ _).alloc (Nat.le_refl _) _
      obtain ⟨fn, tmps, assign, body, hy, hR⟩ := HY.out k wb hkt (HS.out _ hbb)
      have HRR := Lib.hid hR
      rw [hwb]
      clear hR hwb hbb q0 q1 q2 q3 q4 q5
      rw [hy]
      refine ⟨fun h => absurd h Bool.false_ne_true, HRR.out.mono ?_⟩
      rintro e W3 (⟨rfl, hJ3⟩ | ⟨rfl, hJx3⟩)
      · gi_wp2
        go_roundw
        case rel => exact ⟨k + 1, by omega, by go_num, hJ3⟩
        case measure => simp [intOf]; omega
      · gi_wp2
        refine bodyPost_ret (results_none rfl _ _ _) rfl ?_
        exact ⟨⟨_, rfl⟩, .inr ⟨k + 1, hkt, hJx3⟩⟩
    · obtain rfl : k = l.length := by omega
      gi_wp2
      go_end0
      exact ⟨⟨_, rfl⟩, .inl hJk.out⟩

/-- All that a valid law's aims lead to. -/
def LawFull (den : Int) (l : List (Int × List PBed)) : Prop := ∀ x ∈ l, AimFull den x

theorem addrs {n : Nat} {W : World} {b off : Nat} {l : List (Int × List PBed)} (h : AimsAt n W b off l) : ∃ bf of cf : Nat → Nat, ∀ i, i < l.length →
    W.cell? ⟨b, off + i*2, none⟩ = some (.int .i64 (atOf l i)) ∧ W.cell? ⟨b, off + i*2 + 1, none⟩ = some (.slice (some ⟨bf i, of i, none⟩) (lenOf l i) (cf i)) ∧ bf i < n ∧ ∃ x, l[i]? = some x ∧ x ∈ l ∧ atOf l i = x.1 ∧ lenOf l i = x.2.length ∧ BedsAt W (bf i) (of i) x.2 := by
  have key : ∀ i, ∃ t : Nat × Nat × Nat, i < l.length → W.cell? ⟨b, off + i*2, none⟩ = some (.int .i64 (atOf l i)) ∧ W.cell? ⟨b, off + i*2 + 1, none⟩ = some (.slice (some ⟨t.1, t.2.1, none⟩) (lenOf l i) t.2.2) ∧ t.1 < n ∧ ∃ x, l[i]? = some x ∧ x ∈ l ∧ atOf l i = x.1 ∧ lenOf l i = x.2.length ∧ BedsAt W t.1 t.2.1 x.2 := by
    intro i
    by_cases hi : i < l.length
    · obtain ⟨h1, bb, ob, cb, h2, h3, h4⟩ := h.2 i l[i] (by simp [hi])
      exact ⟨(bb, ob, cb), fun _ => ⟨by simpa [atOf, hi] using h1, by simpa [lenOf, hi] using h2, h3, l[i], by simp [hi], List.getElem_mem hi, by simp [atOf, hi], by simp [lenOf, hi], h4⟩⟩
    · exact ⟨(0, 0, 0), fun h => absurd h hi⟩
  exact ⟨fun i => (key i).choose.1, fun i => (key i).choose.2.1, fun i => (key i).choose.2.2, fun i hi => (key i).choose_spec hi⟩

set_option maxRecDepth 100000 in
set_option maxHeartbeats 1000000 in
theorem checkLong_any (at' : Int) (bb ob n cb : Nat) (w : World) (hn : n ≤ 10) :
    Calls Try.prog 131 #[.agg #[.int .i64 at', .slice (some ⟨bb, ob, none⟩) n cb]] w fun e w' => e = .returned (.bool false) ∧ Below w.heap.size w w' := by
  have h : ¬ ((10 : Int) < (n : Int)) := by omega
  go_enter Try.func131, Try.ntmps131
  go_wp2
  go_ret
  exact ⟨ret_bool (by simp <;> omega), (Below.refl _ _).alloc (Nat.le_refl _) _⟩

set_option maxRecDepth 100000 in
set_option maxHeartbeats 1000000 in
theorem check_throw (den : Int) (l : List (Int × List PBed)) (ba oa ca : Nat) (w : World) (hd : 1 ≤ den) (hden : den ≤ 3000) (hl1 : 1 ≤ l.length) (hl : l.length ≤ 20) (hf : LawFull den l) (hA : AimsAt w.heap.size w ba oa l) :
    Calls Try.prog 92 #[.agg #[.int .i64 den, .slice (some ⟨ba, oa, none⟩) l.length ca]] w fun e w' => e = .returned (.int .i64 0) ∧ Below w.heap.size w w' := by
  have hba := hA.1
  obtain ⟨bf, of, cf, hadr⟩ := addrs hA
  have h1 := fun (W : World) (hW : Below w.heap.size w W) =>
    contains_aim ba oa l.length ca (fun i => .int .i64 (atOf l i)) (fun i => .slice (some ⟨bf i, of i, none⟩) (lenOf l i) (cf i)) 131 #[] (fun _ => false) (fun W' => Below W.heap.size W W') W false
      (enters_of Try.func131 (by kernel_rfl) rfl) (by omega)
      (fun i W' hi hS => by
        obtain ⟨a1, a2, _⟩ := hadr i hi
        have hb := (bcell (hW.trans (Below.mono hS hW.size))).1
        exact ⟨(hb _ _ hba).trans a1, (hb _ _ hba).trans a2⟩)
      (fun i W' hi hS => by
        obtain ⟨_, _, _, x, hx, hm, _, hle, _⟩ := hadr i hi
        have := checkLong_any (atOf l i) (bf i) (of i) (lenOf l i) (cf i) W' (by rw [hle]; exact (hf x hm).ok.len)
        exact this.mono fun e W2 hh => ⟨hh.1, Below.trans hS (Below.mono hh.2 (Below.size hS))⟩)
      (Below.refl _ _) (by simp)
  have h2 := fun (W : World) (b : Nat) (hb : b < W.heap.size) (c0 : W.cell? ⟨b, 0, none⟩ = some (.int .i64 den)) =>
    within_throw 1 3000 b 0 1 1 (fun _ => den) W true hb (by decide) (fun i hi => by rw [show i = 0 by omega]; exact c0) ⟨fun _ _ _ => ⟨hd, hden⟩, fun _ => rfl⟩
  have h3 : ∀ (k : Nat) (W : World), k < l.length → Below w.heap.size w W → Calls Try.prog 134 #[chanceV l den bf of cf k] W fun e w' => e = .returned (.bool true) ∧ Below W.heap.size W w' := by
    intro k W hk hW
    obtain ⟨_, _, hbk, x, hx, hm, hat, hle, hB⟩ := hadr k hk
    have := isValid_any x den (bf k) (of k) (cf k) W (hf x hm) hd hden (Nat.lt_of_lt_of_le hbk hW.size) (hB.below hW hbk)
    rw [← hat, ← hle] at this
    exact this
  have hads : ∀ (W : World), Below w.heap.size w W → ∀ i, i < l.length → W.cell? ⟨ba, oa + i*2, none⟩ = some (.int .i64 (atOf l i)) ∧ W.cell? ⟨ba, oa + i*2 + 1, none⟩ = some (.slice (some ⟨bf i, of i, none⟩) (lenOf l i) (cf i)) := by
    intro W hW i hi
    obtain ⟨a1, a2, _⟩ := hadr i hi
    have hb := (bcell hW).1
    exact ⟨(hb _ _ hba).trans a1, (hb _ _ hba).trans a2⟩
  have H1 := Lib.hid h1
  have H2 := Lib.hid h2
  have H3 := Lib.hid h3
  have HADS := Lib.hid hads
  clear h1 h2 h3 hads hadr hf hA
  have hlen0 : ((l.length : Int) == 0) = false := by rw [beq_eq_false_iff_ne]; omega
  have hlen20 : ¬ ((20 : Int) < (l.length : Int)) := by omega
  refine calls_marks Try.func92 rfl ?_
  simp only [Try.ntmps92, List.size_toArray, List.length_cons, List.length_nil, Nat.reduceAdd, Nat.reduceSub, Array.replicate_succ, Array.replicate_zero, List.push_toArray, List.append_toArray, List.nil_append, List.cons_append]
  go_wp2_with fail
  obtain ⟨wa, hwa⟩ : ∃ wa, (w.alloc (Obj.cells #[Value.int IntKind.i64 den, .slice (some ⟨ba, oa, none⟩) l.length ca] 28)).alloc (Obj.cells #[.int .i64 0] 34) = wa := ⟨_, rfl⟩
  have hB : Below w.heap.size w wa := by rw [← hwa]; exact ((Below.refl _ _).alloc (Nat.le_refl _) _).alloc (by simp) _
  have za : w.heap.size + 1 < wa.heap.size := by rw [← hwa]; simp
  have a0 : wa.cell? ⟨w.heap.size, 0, none⟩ = some (.int .i64 den) := by rw [← hwa, cell_old _ _ _ (by simp), cell_new _ _ _ _ _ _ rfl]; rfl
  have a1 : wa.cell? ⟨w.heap.size, 1, none⟩ = some (.slice (some ⟨ba, oa, none⟩) l.length ca) := by rw [← hwa, cell_old _ _ _ (by simp), cell_new _ _ _ _ _ _ rfl]; rfl
  have a2 : wa.cell? ⟨w.heap.size + 1, 0, none⟩ = some (.int .i64 0) := by rw [← hwa, cell_new _ _ _ _ _ _ (by simp)]; rfl
  have a3 : wa.frozen? ⟨w.heap.size + 1, 0, none⟩ = false := by rw [← hwa, frozen_new _ _ _ _ _ (by simp)]
  rw [hwa]
  have HB := Lib.hid hB
  refine (H1.out wa hB).mono ?_
  rintro e w1 ⟨rfl, hb1⟩
  have hc1 := bcell hb1
  have b0 := (hc1.1 _ 0 (show w.heap.size < _ by omega)).trans a0
  have b1 := (hc1.1 _ 1 (show w.heap.size < _ by omega)).trans a1
  have b2 := (hc1.1 _ 0 za).trans a2
  have b3 := (hc1.2 _ 0 za).trans a3
  have HB1 := Lib.hid (hB.trans (hb1.mono hB.size))
  have z1 : w.heap.size + 1 < w1.heap.size := Nat.lt_of_lt_of_le za hb1.size
  clear hb1 hc1 a0 a1 a2 a3 hB hwa za
  go_wp2_with fail
  obtain ⟨wc, hwc⟩ : ∃ wc, w1.alloc (Obj.cells #[.int .i64 den] 3) = wc := ⟨_, rfl⟩
  have hbc : Below w1.heap.size w1 wc := by rw [← hwc]; exact (Below.refl _ _).alloc (Nat.le_refl _) _
  rw [hwc]
  refine (H2.out wc w1.heap.size (by rw [← hwc]; simp) (by rw [← hwc, cell_new _ _ _ _ _ _ rfl]; rfl)).mono ?_
  rintro e w2 ⟨rfl, hb2⟩
  have hc2 := bcell (hbc.trans (hb2.mono hbc.size))
  have c0 := (hc2.1 _ 0 (show w.heap.size < _ by omega)).trans b0
  have c1 := (hc2.1 _ 1 (show w.heap.size < _ by omega)).trans b1
  have c2 := (hc2.1 _ 0 z1).trans b2
  have c3 := (hc2.2 _ 0 z1).trans b3
  have z2 : w.heap.size + 1 < w2.heap.size := by have := hbc.size; have := hb2.size; omega
  have HB2 := Lib.hid (HB1.out.trans ((hbc.trans (hb2.mono hbc.size)).mono (by omega)))
  clear hb2 hbc hc2 hwc b0 b1 b2 b3 z1
  go_wp2_with (go_in)
  obtain ⟨w3, hw3⟩ : ∃ w3, w2.alloc (Obj.cells #[Value.int IntKind.i64 den, .slice (some ⟨ba, oa, none⟩) l.length ca] 28) = w3 := ⟨_, rfl⟩
  have hb3 : Below w2.heap.size w2 w3 := by rw [← hw3]; exact (Below.refl _ _).alloc (Nat.le_refl _) _
  have z3 : w3.heap.size = w2.heap.size + 1 := by rw [← hw3]; simp
  have d0 : w3.cell? ⟨w2.heap.size, 0, none⟩ = some (.int .i64 den) := by rw [← hw3, cell_new _ _ _ _ _ _ rfl]; rfl
  have d1 : w3.cell? ⟨w2.heap.size, 1, none⟩ = some (.slice (some ⟨ba, oa, none⟩) l.length ca) := by rw [← hw3, cell_new _ _ _ _ _ _ rfl]; rfl
  have d2 := (hb3.cell (p := ⟨w.heap.size + 1, 0, none⟩) z2).trans c2
  have d3 := (hb3.frozen (p := ⟨w.heap.size + 1, 0, none⟩) z2).trans c3
  have HB3 := Lib.hid (HB2.out.trans (hb3.mono (by omega)))
  rw [hw3]
  clear hb3 hw3 c0 c1 c2 c3
  refine wp_rangeA (gf := 166) (fst := #[]) (cap := #[.pointer (some ⟨w2.heap.size, 0, none⟩)]) rfl (enters_of Try.func166 (by kernel_rfl) rfl) (all_iter w2.heap.size ba oa ca den l bf of cf hl) (fun _ => rfl)
    (fun k W => Below w3.heap.size w3 W) (fun _ _ => False) ?G ?own ?I ?It (fun _ _ _ h _ => h) (fun W hb _ => hb) ?round ?done (fun _ _ _ h => h.elim)
  case G =>
    rintro k W hz h1
    have hbw := HB3.out.trans (h1.mono (by omega))
    exact ⟨by omega, (h1.cell (p := ⟨_, _, none⟩) (by simp only; omega)).trans d0, (h1.cell (p := ⟨_, _, none⟩) (by simp only; omega)).trans d1, by omega, HADS.out W hbw⟩
  case own =>
    rintro W W' j o h1 hj ho _
    have hjW := (Array.getElem?_eq_some_iff.1 ho).1
    rw [Below.block h1 j hjW]
    exact ho
  case I =>
    rintro k W W' h1 h3
    exact h1.trans (Below.mono h3 h1.size)
  case It =>
    rintro k W W' h1 ht
    have hz := h1.size
    exact h1.trans ⟨ht.os, ht.tape, ht.output, Nat.le_of_eq ht.size.symm, fun j hj => ht.block j (by omega)⟩
  case round =>
    rintro fn k W rec hk h1 hz hl hD hrec
    unfold chanceV
    obtain ⟨atk, hatk⟩ : ∃ atk, atOf l k = atk := ⟨_, rfl⟩
    obtain ⟨lnk, hlnk⟩ : ∃ lnk, lenOf l k = lnk := ⟨_, rfl⟩
    have hcall := fun W' (hW' : Below w3.heap.size w3 W') => H3.out k W' hk (HB3.out.trans (hW'.mono (by omega)))
    unfold chanceV at hcall
    rw [hatk, hlnk] at hcall ⊢
    have HC := Lib.hid hcall
    have HH1 := Lib.hid h1
    have HHL := Lib.hid hl
    have HHD := Lib.hid hD
    clear hatk hlnk hcall hrec h1 hl hD d0 d1 d2 d3
    gi_wp2
    obtain ⟨V, hV⟩ : ∃ V, W.alloc (Obj.cells #[.int .i64 atk, .slice (some ⟨bf k, of k, none⟩) lnk (cf k), .int .i64 den] 227) = V := ⟨_, rfl⟩
    rw [hV]
    have hWV : Below W.heap.size W V := by rw [← hV]; exact (Below.refl _ _).alloc (Nat.le_refl _) _
    have v0 : V.cell? ⟨W.heap.size, 0, none⟩ = some (.int .i64 atk) := by rw [← hV, cell_new _ _ _ _ _ _ rfl]; rfl
    have v1 : V.cell? ⟨W.heap.size, 1, none⟩ = some (.slice (some ⟨bf k, of k, none⟩) lnk (cf k)) := by rw [← hV, cell_new _ _ _ _ _ _ rfl]; rfl
    have v2 : V.cell? ⟨W.heap.size, 2, none⟩ = some (.int .i64 den) := by rw [← hV, cell_new _ _ _ _ _ _ rfl]; rfl
    refine ⟨(hWV.block _ hz).trans HHL.out, ?_⟩
    obtain ⟨P, hP⟩ : ∃ P, V.putObj (w3.heap.size + 1) (.loop (rec .busy none)) = P := ⟨_, rfl⟩
    have ht : Turn (w3.heap.size + 1) V P := by rw [← hP]; exact Turn.put _ _ _
    have hVz : V.heap.size = W.heap.size + 1 := by rw [← hV]; simp
    have pl : P.heap[w3.heap.size + 1]? = some (.loop (rec .busy none)) := by rw [← hP]; exact World.putObj_heap_same (by omega)
    have pD : P.heap[w3.heap.size]? = some (.deferred (some [])) := ((ht.block _ (by omega)).trans (hWV.block _ (by omega))).trans HHD.out
    have hcp : ∀ o, P.cell? ⟨W.heap.size, o, none⟩ = V.cell? ⟨W.heap.size, o, none⟩ := fun o => World.cell?_of_block (w := V) (a := ⟨W.heap.size, o, none⟩) (ht.block _ (by simp only; omega))
    have p0 := (hcp 0).trans v0
    have p1 := (hcp 1).trans v1
    have p2 := (hcp 2).trans v2
    have hb1 : Below w3.heap.size V P := ⟨ht.os, ht.tape, ht.output, Nat.le_of_eq ht.size.symm, fun j hj => ht.block j (by omega)⟩
    have hbP : Below w3.heap.size w3 P := (HH1.out.trans (hWV.mono (by omega))).trans hb1
    have hzP : P.heap.size = W.heap.size + 1 := by rw [ht.size, hVz]
    have HBP := Lib.hid hbP
    have HPL := Lib.hid pl
    have HPD := Lib.hid pD
    rw [hP]
    clear hV hP ht hcp hWV v0 v1 v2 hb1 hbP pl pD
    gi_wp2_with fail
    refine ⟨trivial, rfl, CallsIn.inRound _ (callsIn_wide.2 ((HC.out P HBP.out).mono ?_))⟩
    rintro e P2 ⟨rfl, q1⟩
    have Q1 := Lib.hid q1
    clear q1
    gi_wp2
    refine ⟨(Q1.out.block _ (by omega)).trans HPL.out, (Q1.out.block _ (by omega)).trans HPD.out, HBP.out.trans (Q1.out.mono (by omega))⟩
  case done =>
    rintro W h1 hz hD
    have e2 := (h1.cell (p := ⟨w.heap.size + 1, 0, none⟩) (by simp only; omega)).trans d2
    have e3 := (h1.frozen (p := ⟨w.heap.size + 1, 0, none⟩) (by simp only; omega)).trans d3
    have HH1 := Lib.hid h1
    clear h1 d0 d1 d2 d3
    go_wp2
    have f1 : (W.setCell ⟨w.heap.size + 1, 0, none⟩ (.int .i64 0)).heap[w3.heap.size]? = some (.deferred (some [])) := (Below.heap_setCell _ _ _ _ (by simp only; omega)).trans hD
    have ht : Turn w3.heap.size (W.setCell ⟨w.heap.size + 1, 0, none⟩ (.int .i64 0)) ((W.setCell ⟨w.heap.size + 1, 0, none⟩ (.int .i64 0)).putObj w3.heap.size (.deferred none)) := Turn.put _ _ _
    have f2 : ((W.setCell ⟨w.heap.size + 1, 0, none⟩ (.int .i64 0)).putObj w3.heap.size (.deferred none)).cell? ⟨w.heap.size + 1, 0, none⟩ = some (.int .i64 0) :=
      (World.cell?_of_block (w := W.setCell ⟨w.heap.size + 1, 0, none⟩ (.int .i64 0)) (a := ⟨w.heap.size + 1, 0, none⟩) (ht.block _ (by simp only; omega))).trans (World.cell?_setCell_same' _ _ _ (by rw [e2]; rfl))
    refine Or.inr ⟨w3.heap.size, rfl, f1, .int .i64 0, by simp [results, Try.results92, go_sem, f2], rfl, ?_⟩
    exact ((HB3.out.trans (HH1.out.mono (by omega))).setCell (p := ⟨w.heap.size + 1, 0, none⟩) (by simp only; omega) _).trans ⟨ht.os, ht.tape, ht.output, Nat.le_of_eq ht.size.symm, fun j hj => ht.block j (by omega)⟩

end Go.Proofs.Ytnaehbgmfajdjaa
