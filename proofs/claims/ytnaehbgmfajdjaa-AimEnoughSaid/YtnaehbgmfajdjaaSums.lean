/- sums of package throw. -/
import Derived.Test.YtnaehbgmfajdjaaValid
import Derived.Shelf.RegionOpen
import Derived.Deep.RegionHeld3
namespace Go.Proofs.Ytnaehbgmfajdjaa
open Go.RowKit AimP

def highsTo (l : List PBed) : Nat → Int
  | 0 => 0
  | j + 1 => highsTo l j + (l[j]?.map PBed.high).getD 0

theorem highsTo_cons (b : PBed) (l : List PBed) : ∀ j, highsTo (b :: l) (j + 1) = b.high + highsTo l j
  | 0 => by simp [highsTo]
  | j + 1 => by
    rw [highsTo, highsTo_cons b l j, highsTo]
    simp
    omega
theorem highsTo_all : ∀ l : List PBed, highsTo l l.length = highs l
  | [] => rfl
  | b :: l => by rw [List.length_cons, highsTo_cons, highsTo_all l]; rfl
theorem lowsTo_all' : ∀ l : List PBed, lowsTo l l.length = lows l
  | [] => rfl
  | b :: l => by rw [List.length_cons, lowsTo_cons, lowsTo_all' l]; rfl
theorem spanTo_bd {den : Int} {l : List PBed} (h : Small den l) (hd : 0 ≤ den) : ∀ j, 0 ≤ lowsTo l j ∧ lowsTo l j ≤ j * den ∧ 0 ≤ highsTo l j ∧ highsTo l j ≤ j * den
  | 0 => by simp [lowsTo, highsTo]
  | j + 1 => by
    obtain ⟨h1, h2, h3, h4⟩ := spanTo_bd h hd j
    have e : ((j + 1 : Nat) : Int) * den = j * den + den := by rw [Int.natCast_add, Int.add_mul]; simp
    rw [e, lowsTo, highsTo]
    cases hx : l[j]? with
    | none => simp; omega
    | some x =>
      have hm := h x (List.mem_of_getElem? hx)
      simp
      omega

set_option maxRecDepth 100000 in
set_option maxHeartbeats 1000000 in
theorem sums_any (a : Int × List PBed) (den : Int) (bb ob cb : Nat) (w : World) (h : AimOk den a.2) (hd : 0 ≤ den) (hden : den ≤ 3000) (hbb : bb < w.heap.size) (hB : BedsAt w bb ob a.2) :
    Calls Try.prog 169 #[.agg #[.int .i64 a.1, .slice (some ⟨bb, ob, none⟩) a.2.length cb, .int .i64 den]] w fun e w' => e = .returned (.agg #[.int .i64 (lows a.2), .int .i64 (highs a.2)]) ∧ Below w.heap.size w w' := by
  obtain ⟨at', l⟩ := a
  have hl := h.len
  have hsm := h.small
  simp only at hl hB hsm ⊢
  have hbd := spanTo_bd hsm hd
  have HBD := Lib.hid hB
  have HSM := Lib.hid hsm
  have HSP := Lib.hid hbd
  have hres : Value.agg #[.int .i64 (lows l), .int .i64 (highs l)] = .agg #[.int .i64 (lowsTo l l.length), .int .i64 (highsTo l l.length)] := by rw [lowsTo_all', highsTo_all]
  rw [hres]
  obtain ⟨L, hL⟩ : ∃ L, lowsTo l = L := ⟨_, rfl⟩
  obtain ⟨G, hG⟩ : ∃ G, highsTo l = G := ⟨_, rfl⟩
  have hstep : ∀ k x, l[k]? = some x → L (k + 1) = L k + x.low ∧ G (k + 1) = G k + x.high := by
    intro k x hx
    rw [← hL, ← hG]
    simp [lowsTo, highsTo, hx]
  have hL0 : L 0 = 0 := by rw [← hL]; rfl
  have hG0 : G 0 = 0 := by rw [← hG]; rfl
  rw [hL, hG] at HSP ⊢
  have HST := Lib.hid hstep
  have HL0 := Lib.hid hL0
  have HG0 := Lib.hid hG0
  clear hB hsm hbd h hres hL hG hstep hL0 hG0
  go_enter Try.func169, Try.ntmps169
  go_wp2_with fail
  obtain ⟨wa, hwa⟩ : ∃ wa, (w.alloc (Obj.cells #[Value.int IntKind.i64 at', .slice (some ⟨bb, ob, none⟩) l.length cb, .int .i64 den] 227)).alloc (Obj.cells #[.int .i64 0, .int .i64 0] 59) = wa := ⟨_, rfl⟩
  have ba : Below w.heap.size w wa := by rw [← hwa]; exact ((Below.refl _ _).alloc (Nat.le_refl _) _).alloc (by simp) _
  have za : w.heap.size + 1 < wa.heap.size := by rw [← hwa]; simp
  have a0 : wa.cell? ⟨w.heap.size + 1, 0, none⟩ = some (.int .i64 (L 0)) := by rw [← hwa, cell_new _ _ _ _ _ _ (by simp), HL0.out]; rfl
  have a1 : wa.cell? ⟨w.heap.size + 1, 1, none⟩ = some (.int .i64 (G 0)) := by rw [← hwa, cell_new _ _ _ _ _ _ (by simp), HG0.out]; rfl
  have af : ∀ o, wa.frozen? ⟨w.heap.size + 1, o, none⟩ = false := fun o => by rw [← hwa, frozen_new _ _ _ _ _ (by simp)]
  have BA := Lib.hid ba
  rw [hwa]
  clear ba hwa
  go_loopw [9] (fun vi wr => ∃ i : Nat, vi = .int .i64 i ∧ i ≤ l.length ∧ Hid (Below w.heap.size w wr) ∧ w.heap.size + 1 < wr.heap.size ∧ wr.cell? ⟨w.heap.size + 1, 0, none⟩ = some (.int .i64 (L i)) ∧ wr.cell? ⟨w.heap.size + 1, 1, none⟩ = some (.int .i64 (G i)) ∧ (∀ o, wr.frozen? ⟨w.heap.size + 1, o, none⟩ = false)) (fun vi _ => l.length - (intOf vi).toNat)
  case atStart => exact ⟨0, rfl, Nat.zero_le _, BA.out, za, a0, a1, af⟩
  case round =>
    obtain ⟨i, rfl, hin, hBw, zr, c0, c1, cf⟩ := hrel
    clear a0 a1 af za
    by_cases hlt : i < l.length
    · obtain ⟨x, hx⟩ : ∃ x, l[i]? = some x := ⟨l[i], by simp [hlt]⟩
      obtain ⟨x0, x1, x2⟩ := (HBD.out.below hBw.out hbb) i x hx
      obtain ⟨e1, e2⟩ := HST.out i x hx
      have hmul : (i : Int) * den ≤ 10 * 3000 := by
        have := Int.mul_le_mul (show (i : Int) ≤ 10 by omega) hden hd (by omega)
        omega
      obtain ⟨p1, p2, p3, p4⟩ := HSP.out i
      obtain ⟨q1, q2, q3⟩ := HSM.out x (List.mem_of_getElem? hx)
      obtain ⟨li, hli⟩ : ∃ li, L i = li := ⟨_, rfl⟩
      obtain ⟨gi, hgi⟩ : ∃ gi, G i = gi := ⟨_, rfl⟩
      rw [hli] at c0 p1 p2 e1
      rw [hgi] at c1 p3 p4 e2
      have E1 := Lib.hid e1
      have E2 := Lib.hid e2
      have hbr : bb < wr.heap.size := by omega
      clear e1 e2 hli hgi hx
      go_wp2_with fail
      obtain ⟨wb, hwb⟩ : ∃ wb, wr.alloc (Obj.cells #[Value.int IntKind.i64 x.bed, Value.int IntKind.i64 x.low, Value.int IntKind.i64 x.high] 61) = wb := ⟨_, rfl⟩
      have f0 : wb.cell? ⟨wr.heap.size, 1, none⟩ = some (.int .i64 x.low) := by rw [← hwb, cell_new _ _ _ _ _ _ rfl]; rfl
      have f1 : wb.cell? ⟨wr.heap.size, 1 + 1, none⟩ = some (.int .i64 x.high) := by rw [← hwb, cell_new _ _ _ _ _ _ rfl]; rfl
      have f2 : wb.cell? ⟨wr.heap.size, 2, none⟩ = some (.int .i64 x.high) := f1
      have k0 : wb.cell? ⟨w.heap.size + 1, 0, none⟩ = some (.int .i64 li) := by rw [← hwb, cell_old _ _ _ zr]; exact c0
      have k1 : wb.cell? ⟨w.heap.size + 1, 1, none⟩ = some (.int .i64 gi) := by rw [← hwb, cell_old _ _ _ zr]; exact c1
      have kf : ∀ o, wb.frozen? ⟨w.heap.size + 1, o, none⟩ = false := fun o => by rw [← hwb, frozen_old _ _ _ zr]; exact cf o
      have hzb : wb.heap.size = wr.heap.size + 1 := by rw [← hwb]; simp
      have hbb' : Below w.heap.size w wb := by rw [← hwb]; exact hBw.out.alloc (by omega) _
      have HBB := Lib.hid hbb'
      have n1 : ¬ (wr.heap.size = w.heap.size + 1) := by omega
      have n2 : ¬ (w.heap.size + 1 = wr.heap.size) := by omega
      rw [hwb]
      clear hwb hbb' x0 x1 x2 c0 c1 cf
      go_region
      go_wp2
      go_roundw
      case rel =>
        refine ⟨i + 1, by go_num, by omega, ?_, by simp; omega, ?_, ?_, ?_⟩
        · exact ((HBB.out.setCell (p := ⟨w.heap.size + 1, 0, none⟩) (by simp only; omega) _).setCell (p := ⟨w.heap.size + 1, 1, none⟩) (by simp only; omega) _).trans ⟨rfl, rfl, rfl, Nat.le_refl _, fun _ _ => rfl⟩
        · rw [E1.out]
          exact (World.cell?_setCell_other _ _ _ _ (fun e => by simp at e)).trans (World.cell?_setCell_same' _ _ _ (by rw [k0]; rfl))
        · rw [E2.out]
          exact World.cell?_setCell_same' _ _ _ (by rw [World.cell?_setCell_other _ _ _ _ (fun e => by simp at e), k1]; rfl)
        · intro o
          exact (World.frozen?_setCell _ _ _ _).trans ((World.frozen?_setCell _ _ _ _).trans (kf o))
      case measure => simp [intOf]; omega
    · obtain rfl : i = l.length := by omega
      obtain ⟨li, hli⟩ : ∃ li, L l.length = li := ⟨_, rfl⟩
      obtain ⟨gi, hgi⟩ : ∃ gi, G l.length = gi := ⟨_, rfl⟩
      rw [hli] at c0
      rw [hgi] at c1
      have HLI := Lib.hid hli
      have HGI := Lib.hid hgi
      have f0 := cf 0
      have f1 := cf 1
      have fin : Below w.heap.size w ((wr.setCell ⟨w.heap.size + 1, 0, none⟩ (.int .i64 li)).setCell ⟨w.heap.size + 1, 1, none⟩ (.int .i64 gi)) := (hBw.out.setCell (p := ⟨w.heap.size + 1, 0, none⟩) (by simp only; omega) _).setCell (p := ⟨w.heap.size + 1, 1, none⟩) (by simp only; omega) _
      have FIN := Lib.hid fin
      have r0 : ((wr.setCell ⟨w.heap.size + 1, 0, none⟩ (.int .i64 li)).setCell ⟨w.heap.size + 1, 1, none⟩ (.int .i64 gi)).cell? ⟨w.heap.size + 1, 0, none⟩ = some (.int .i64 li) :=
        (World.cell?_setCell_other _ _ _ _ (fun e => by simp at e)).trans (World.cell?_setCell_same' _ _ _ (by rw [c0]; rfl))
      have r1 : ((wr.setCell ⟨w.heap.size + 1, 0, none⟩ (.int .i64 li)).setCell ⟨w.heap.size + 1, 1, none⟩ (.int .i64 gi)).cell? ⟨w.heap.size + 1, 1, none⟩ = some (.int .i64 gi) :=
        World.cell?_setCell_same' _ _ _ (by rw [World.cell?_setCell_other _ _ _ _ (fun e => by simp at e), c1]; rfl)
      obtain ⟨we, hwe⟩ : ∃ we, (wr.setCell ⟨w.heap.size + 1, 0, none⟩ (.int .i64 li)).setCell ⟨w.heap.size + 1, 1, none⟩ (.int .i64 gi) = we := ⟨_, rfl⟩
      rw [hwe] at r0 r1 FIN
      clear fin hli hgi
      go_wp2
      refine bodyPost_ret (v := .agg #[.int .i64 li, .int .i64 gi]) (by simp [results, Try.results169, go_sem, r0, r1]) rfl ?_
      exact ⟨by rw [HLI.out, HGI.out], FIN.out⟩

end Go.Proofs.Ytnaehbgmfajdjaa
