/- (side).mean of package aim: the mean of values in the truth that belongs to a side. -/
import Derived.Test.YtnaehbgmfajdjaaAimA
import Derived.Test.YtnaehbgmfajdjaaShelf
namespace Go.Proofs.Ytnaehbgmfajdjaa
open Go.RowKit AimP

/-- By what the beds are ordered. -/
def cmpBy (best : Bool) (us : List Int) (i k : Nat) : Int := if best then Lib.compareInt (us[i]?.getD 0) (us[k]?.getD 0) else Lib.compareInt (us[k]?.getD 0) (us[i]?.getD 0)

set_option maxHeartbeats 400000 in
theorem meanLess (best : Bool) (us : List Int) (Bs Bv bv cv n : Nat) (i k : Nat) (W : World) (hi : i < n) (hk : k < n)
    (hs : W.cell? ⟨Bs, 0, none⟩ = some (.bool best)) (hv : W.cell? ⟨Bv, 0, none⟩ = some (.slice (some ⟨bv, 0, none⟩) n cv))
    (hc : ∀ t, t < n → W.cell? ⟨bv, t, none⟩ = some (.int .i64 (us[t]?.getD 0))) :
    Calls Try.prog 188 #[.int .i64 i, .int .i64 k, .pointer (some ⟨Bs, 0, none⟩), .pointer (some ⟨Bv, 0, none⟩)] W fun e w' => e = .returned (.int .i64 (cmpBy best us i k)) ∧ ∃ q, w' = W.drewN q := by
  have ci := hc i hi
  have ck := hc k hk
  clear hc
  generalize hx : us[i]?.getD 0 = x at ci
  generalize hy : us[k]?.getD 0 = y at ck
  obtain ⟨r, hr⟩ : ∃ r, cmpBy best us i k = r := ⟨_, rfl⟩
  have HR := Lib.hid hr
  have HX := Lib.hid hx
  have HY := Lib.hid hy
  rw [hr]
  clear hr hx hy
  cases best with
  | true =>
    go_enter Try.func188, Try.ntmps188
    go_wp2
    go_quiet ((go_at_call 69; exact Calls.quiet_of_same (Try.cmp_Compare_int _ _ _)))
    go_wp2
    go_ret
    refine ⟨ret_int ?_, _, rfl⟩
    rw [← HR.out, cmpBy, if_pos rfl, HX.out, HY.out]
  | false =>
    go_enter Try.func188, Try.ntmps188
    go_wp2
    go_quiet ((go_at_call 69; exact Calls.quiet_of_same (Try.cmp_Compare_int _ _ _)))
    go_wp2
    go_ret
    refine ⟨ret_int ?_, _, rfl⟩
    rw [← HR.out, cmpBy, if_neg (by simp), HX.out, HY.out]

theorem compareInt_lt {x y : Int} : Lib.compareInt x y < 0 ↔ x < y := by
  unfold Lib.compareInt
  split
  · simp; omega
  · split <;> simp <;> omega

/-- The less of the sort over the places of the beds. -/
theorem cmpBy_lt (best : Bool) (us : List Int) (i k : Nat) : decide (cmpBy best us i k < 0) = if best then decide ((us[i]?).getD 0 < (us[k]?).getD 0) else decide ((us[k]?).getD 0 < (us[i]?).getD 0) := by
  unfold cmpBy
  cases best <;> simp [compareInt_lt]

theorem swo_cmpBy (best : Bool) (us : List Int) (n : Nat) : Sort.SWO (ltOf (fun i k : Fin n => cmpBy best us i.val k.val)) := by
  constructor
  · intro x; unfold ltOf; rw [cmpBy_lt]; cases best <;> simp
  · intro x y z; unfold ltOf; rw [cmpBy_lt, cmpBy_lt, cmpBy_lt]; cases best <;> simp <;> omega
  · intro x y z; unfold ltOf; rw [cmpBy_lt, cmpBy_lt, cmpBy_lt]; cases best <;> simp <;> omega

/-- A place as a value. -/
def encF {n : Nat} (i : Fin n) : Value := .int .i64 (i.val : Int)

/-- What the sort does to the row of places: they are in order of their values, by a side. -/
theorem sorted_rooms {n : Nat} [Inhabited (Fin n)] (best : Bool) (l : List PBed) (us : List Int) (hl : l.length = n) (hu : us.length = n) (d' : Array (Fin n)) (d : Array (Fin n)) (hd : d.toList = List.finRange n)
    (hp : Sort.PermIn 0 d.size d d') (hs : Sort.SortedIn (ltOf (fun i k : Fin n => cmpBy best us i.val k.val)) 0 d.size d') :
    d'.size = n ∧ ((d'.toList.map Fin.val).map (roomAt l us)).Perm (rooms l us) ∧ (if best then Asc ((d'.toList.map Fin.val).map (roomAt l us)) else Desc ((d'.toList.map Fin.val).map (roomAt l us))) := by
  have hdn : d.size = n := by rw [← Array.length_toList, hd, List.length_finRange]
  obtain ⟨h1, _, h3⟩ := hp
  have hsz : d'.size = n := by omega
  have h4 : d'.toList.Perm (List.finRange n) := by
    have e1 : d'.extract 0 d.size = d' := by rw [← h1]; exact Array.extract_size
    have e2 : d.extract 0 d.size = d := Array.extract_size
    rw [e1, e2, hd] at h3
    exact h3
  refine ⟨hsz, ?_, ?_⟩
  · have : (d'.toList.map Fin.val).Perm (List.range n) := by
      have := h4.map Fin.val
      have e : (List.finRange n).map Fin.val = List.range n := by
        apply List.ext_getElem?
        intro i
        by_cases hi : i < n <;> simp [hi]
      rwa [e] at this
    rw [rooms_range l us (by omega), hl]
    exact this.map _
  · have hpw : ∀ (i j : Nat) (hi : i < d'.toList.length) (hj : j < d'.toList.length), i < j → ltOf (fun i k : Fin n => cmpBy best us i.val k.val) d'.toList[j] d'.toList[i] = false := by
      intro i j hi hj hij
      have := hs i j (Nat.zero_le _) hij (by simp at hj; omega)
      rwa [getElem!_pos d' j (by simpa using hj), getElem!_pos d' i (by simpa using hi)] at this
    cases best with
    | true =>
      rw [if_pos rfl]
      refine asc_of_pairwise ?_
      rw [List.map_map, List.pairwise_map, List.pairwise_iff_getElem]
      intro i j hi hj hij
      have := hpw i j hi hj hij
      unfold ltOf at this
      rw [cmpBy_lt] at this
      simpa [roomAt] using this
    | false =>
      rw [if_neg (by simp)]
      refine desc_of_pairwise ?_
      rw [List.map_map, List.pairwise_map, List.pairwise_iff_getElem]
      intro i j hi hj hij
      have := hpw i j hi hj hij
      unfold ltOf at this
      rw [cmpBy_lt] at this
      simpa [roomAt] using this

theorem cell_sortWorld {α : Type} [Inhabited α] (enc : α → Value) (w : World) (blk off m : Nat) (dk : Array α) (os : Array Obj) (p : Addr) (h : p.block < w.heap.size) (hb : p.block ≠ blk) :
    (sortWorld enc w blk off m dk os).cell? p = w.cell? p := by
  unfold sortWorld
  rw [Sort.cell?_grow _ _ _ (by simpa using h), Sort.cell?_putRow_other _ _ _ _ _ _ (Or.inl hb)]
  rfl

end Go.Proofs.Ytnaehbgmfajdjaa
