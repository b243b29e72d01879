/-
  No cell of these rows narrows 'for every input' (looked for: loops, veiled, ifaces, maps, wideKeys, modest, calm, conditions, laid).
  DERIVED. THE GIVEN ROWS OF THIS SEAT. 9 by the template 'for every input the law returns true; each argument reads behind the call as it read before'; 0 by the template 'total and deterministic' (their statements: YtnaehbgmfajdjaaTotals.lean).
  GIVEN WITH THE SEED: the statements are not yours to turn. If you find one false, say at which input.
  Laid BY PROGRAM, IN A SANDBOX (cutbox-rows.mjs): the forced cells as the released guide's own fill.sh prints them over the translation 51c5d73044f3900b… (all of the seat's roots in one cut). By AI agents, Wed Nov 11 2026. No macro, syntax, notation, axiom, sorry.
-/
import Derived.Test.YtnaehbgmfajdjaaChecked
import GoSem.Claim
import GoSem.ClaimJoined
import GoSem.ClaimMapViews
import Derived.JoinedTies
import Derived.KernelRfl
namespace Go.Proofs.Ytnaehbgmfajdjaa
/- THE CELL 'sum', in the pinned program and in every row, IS THE sha256 OF THE DUMP (.gsa) THAT YtnaehbgmfajdjaaProg.lean LOADS. Nothing in Lean hashes anything: it is a label: what it is worth is what the hold of that sum in a sandbox is worth. -/
noncomputable def Try.pinned : Pinned := { name := "ytnaehbgmfajdjaa", sum := "51c5d73044f3900bd3a074d6e22099ffed3b25a7a96a193b9e6932ac774457c0", checked := Try.checked }
namespace Rows
def none {H : Type} : Left H := { results := [], args := [] }

/-- 'ochelaw08.AimEnough': WHATEVER THE INPUT: true; the input reads as it did. -/
def aimEnoughSpec : ChangeSpec := { name := "aimEnough", fn := fun _ => fun
  | [d1, d2] => { results := [.lit (.bool true)], args := [d1, d2] }
  | _ => none }
def aimEnoughRow : OpenClaim := { program := "ytnaehbgmfajdjaa", sum := "51c5d73044f3900bd3a074d6e22099ffed3b25a7a96a193b9e6932ac774457c0", func := "oche/ochelaw08.AimEnough", spec := "aimEnough", unfollowed := true, recurses := true, plainKeys := false, apart := false }
def AimEnoughSaid : Prop := aimEnoughRow.holds Try.pinned (OpenSpec.ofChange aimEnoughSpec)

/-- ITS FALSE NEIGHBOUR: 'it returns false'. Refute it at one input. -/
def aimEnoughWrong : ChangeSpec := { name := "aimEnough", fn := fun _ => fun
  | [d1, d2] => { results := [.lit (.bool false)], args := [d1, d2] }
  | _ => none }
def AimEnoughWrongFalsely : Prop := aimEnoughRow.holds Try.pinned (OpenSpec.ofChange aimEnoughWrong)

/-- 'ochelaw08.AimSooner': WHATEVER THE INPUT: true; the input reads as it did. -/
def aimSoonerSpec : ChangeSpec := { name := "aimSooner", fn := fun _ => fun
  | [d1, d2, d3] => { results := [.lit (.bool true)], args := [d1, d2, d3] }
  | _ => none }
def aimSoonerRow : OpenClaim := { program := "ytnaehbgmfajdjaa", sum := "51c5d73044f3900bd3a074d6e22099ffed3b25a7a96a193b9e6932ac774457c0", func := "oche/ochelaw08.AimSooner", spec := "aimSooner", unfollowed := true, recurses := true, plainKeys := false, apart := false }
def AimSoonerSaid : Prop := aimSoonerRow.holds Try.pinned (OpenSpec.ofChange aimSoonerSpec)

/-- ITS FALSE NEIGHBOUR: 'it returns false'. Refute it at one input. -/
def aimSoonerWrong : ChangeSpec := { name := "aimSooner", fn := fun _ => fun
  | [d1, d2, d3] => { results := [.lit (.bool false)], args := [d1, d2, d3] }
  | _ => none }
def AimSoonerWrongFalsely : Prop := aimSoonerRow.holds Try.pinned (OpenSpec.ofChange aimSoonerWrong)

/-- 'ochelaw08.AimNarrows': WHATEVER THE INPUT: true; the input reads as it did. -/
def aimNarrowsSpec : ChangeSpec := { name := "aimNarrows", fn := fun _ => fun
  | [d1, d2] => { results := [.lit (.bool true)], args := [d1, d2] }
  | _ => none }
def aimNarrowsRow : OpenClaim := { program := "ytnaehbgmfajdjaa", sum := "51c5d73044f3900bd3a074d6e22099ffed3b25a7a96a193b9e6932ac774457c0", func := "oche/ochelaw08.AimNarrows", spec := "aimNarrows", unfollowed := true, recurses := true, plainKeys := false, apart := false }
def AimNarrowsSaid : Prop := aimNarrowsRow.holds Try.pinned (OpenSpec.ofChange aimNarrowsSpec)

/-- ITS FALSE NEIGHBOUR: 'it returns false'. Refute it at one input. -/
def aimNarrowsWrong : ChangeSpec := { name := "aimNarrows", fn := fun _ => fun
  | [d1, d2] => { results := [.lit (.bool false)], args := [d1, d2] }
  | _ => none }
def AimNarrowsWrongFalsely : Prop := aimNarrowsRow.holds Try.pinned (OpenSpec.ofChange aimNarrowsWrong)

/-- 'ochelaw08.AimProof': WHATEVER THE INPUT: true; the input reads as it did. -/
def aimProofSpec : ChangeSpec := { name := "aimProof", fn := fun _ => fun
  | [d] => { results := [.lit (.bool true)], args := [d] }
  | _ => none }
def aimProofRow : OpenClaim := { program := "ytnaehbgmfajdjaa", sum := "51c5d73044f3900bd3a074d6e22099ffed3b25a7a96a193b9e6932ac774457c0", func := "oche/ochelaw08.AimProof", spec := "aimProof", unfollowed := true, recurses := true, plainKeys := false, apart := false }
def AimProofSaid : Prop := aimProofRow.holds Try.pinned (OpenSpec.ofChange aimProofSpec)

/-- ITS FALSE NEIGHBOUR: 'it returns false'. Refute it at one input. -/
def aimProofWrong : ChangeSpec := { name := "aimProof", fn := fun _ => fun
  | [d] => { results := [.lit (.bool false)], args := [d] }
  | _ => none }
def AimProofWrongFalsely : Prop := aimProofRow.holds Try.pinned (OpenSpec.ofChange aimProofWrong)

/-- 'ochelaw08.AimOther': WHATEVER THE INPUT: true; the input reads as it did. -/
def aimOtherSpec : ChangeSpec := { name := "aimOther", fn := fun _ => fun
  | [d1, d2] => { results := [.lit (.bool true)], args := [d1, d2] }
  | _ => none }
def aimOtherRow : OpenClaim := { program := "ytnaehbgmfajdjaa", sum := "51c5d73044f3900bd3a074d6e22099ffed3b25a7a96a193b9e6932ac774457c0", func := "oche/ochelaw08.AimOther", spec := "aimOther", unfollowed := true, recurses := true, plainKeys := false, apart := false }
def AimOtherSaid : Prop := aimOtherRow.holds Try.pinned (OpenSpec.ofChange aimOtherSpec)

/-- ITS FALSE NEIGHBOUR: 'it returns false'. Refute it at one input. -/
def aimOtherWrong : ChangeSpec := { name := "aimOther", fn := fun _ => fun
  | [d1, d2] => { results := [.lit (.bool false)], args := [d1, d2] }
  | _ => none }
def AimOtherWrongFalsely : Prop := aimOtherRow.holds Try.pinned (OpenSpec.ofChange aimOtherWrong)

/-- 'ochetop.TopOutMean': WHATEVER THE INPUT: true; the input reads as it did. -/
def topOutMeanSpec : ChangeSpec := { name := "topOutMean", fn := fun _ => fun
  | [d1, d2, d3] => { results := [.lit (.bool true)], args := [d1, d2, d3] }
  | _ => none }
def topOutMeanRow : OpenClaim := { program := "ytnaehbgmfajdjaa", sum := "51c5d73044f3900bd3a074d6e22099ffed3b25a7a96a193b9e6932ac774457c0", func := "oche/ochetop.TopOutMean", spec := "topOutMean", unfollowed := true, recurses := true, plainKeys := false, apart := false }
def TopOutMeanSaid : Prop := topOutMeanRow.holds Try.pinned (OpenSpec.ofChange topOutMeanSpec)

/-- ITS FALSE NEIGHBOUR: 'it returns false'. Refute it at one input. -/
def topOutMeanWrong : ChangeSpec := { name := "topOutMean", fn := fun _ => fun
  | [d1, d2, d3] => { results := [.lit (.bool false)], args := [d1, d2, d3] }
  | _ => none }
def TopOutMeanWrongFalsely : Prop := topOutMeanRow.holds Try.pinned (OpenSpec.ofChange topOutMeanWrong)

/-- 'ochetop.TopFitAim': WHATEVER THE INPUT: true; the input reads as it did. -/
def topFitAimSpec : ChangeSpec := { name := "topFitAim", fn := fun _ => fun
  | [d1, d2, d3] => { results := [.lit (.bool true)], args := [d1, d2, d3] }
  | _ => none }
def topFitAimRow : OpenClaim := { program := "ytnaehbgmfajdjaa", sum := "51c5d73044f3900bd3a074d6e22099ffed3b25a7a96a193b9e6932ac774457c0", func := "oche/ochetop.TopFitAim", spec := "topFitAim", unfollowed := true, recurses := true, plainKeys := false, apart := false }
def TopFitAimSaid : Prop := topFitAimRow.holds Try.pinned (OpenSpec.ofChange topFitAimSpec)

/-- ITS FALSE NEIGHBOUR: 'it returns false'. Refute it at one input. -/
def topFitAimWrong : ChangeSpec := { name := "topFitAim", fn := fun _ => fun
  | [d1, d2, d3] => { results := [.lit (.bool false)], args := [d1, d2, d3] }
  | _ => none }
def TopFitAimWrongFalsely : Prop := topFitAimRow.holds Try.pinned (OpenSpec.ofChange topFitAimWrong)

/-- 'ochetop.TopSureLeg': WHATEVER THE INPUT: true; the input reads as it did. -/
def topSureLegSpec : ChangeSpec := { name := "topSureLeg", fn := fun _ => fun
  | [d1, d2, d3] => { results := [.lit (.bool true)], args := [d1, d2, d3] }
  | _ => none }
def topSureLegRow : OpenClaim := { program := "ytnaehbgmfajdjaa", sum := "51c5d73044f3900bd3a074d6e22099ffed3b25a7a96a193b9e6932ac774457c0", func := "oche/ochetop.TopSureLeg", spec := "topSureLeg", unfollowed := true, recurses := true, plainKeys := false, apart := false }
def TopSureLegSaid : Prop := topSureLegRow.holds Try.pinned (OpenSpec.ofChange topSureLegSpec)

/-- ITS FALSE NEIGHBOUR: 'it returns false'. Refute it at one input. -/
def topSureLegWrong : ChangeSpec := { name := "topSureLeg", fn := fun _ => fun
  | [d1, d2, d3] => { results := [.lit (.bool false)], args := [d1, d2, d3] }
  | _ => none }
def TopSureLegWrongFalsely : Prop := topSureLegRow.holds Try.pinned (OpenSpec.ofChange topSureLegWrong)

/-- 'ochetop.TopSureAim': WHATEVER THE INPUT: true; the input reads as it did. -/
def topSureAimSpec : ChangeSpec := { name := "topSureAim", fn := fun _ => fun
  | [d1, d2, d3] => { results := [.lit (.bool true)], args := [d1, d2, d3] }
  | _ => none }
def topSureAimRow : OpenClaim := { program := "ytnaehbgmfajdjaa", sum := "51c5d73044f3900bd3a074d6e22099ffed3b25a7a96a193b9e6932ac774457c0", func := "oche/ochetop.TopSureAim", spec := "topSureAim", unfollowed := true, recurses := true, plainKeys := false, apart := false }
def TopSureAimSaid : Prop := topSureAimRow.holds Try.pinned (OpenSpec.ofChange topSureAimSpec)

/-- ITS FALSE NEIGHBOUR: 'it returns false'. Refute it at one input. -/
def topSureAimWrong : ChangeSpec := { name := "topSureAim", fn := fun _ => fun
  | [d1, d2, d3] => { results := [.lit (.bool false)], args := [d1, d2, d3] }
  | _ => none }
def TopSureAimWrongFalsely : Prop := topSureAimRow.holds Try.pinned (OpenSpec.ofChange topSureAimWrong)

/- THE SECOND FORM. 'bulk': how many values and letters a reading holds, each counted each time it is reached (what is shared counts as often as it is met; a slice's spare places count too). A statement '..UptoSaid' is the law's where the arguments, and the package variables that the reading takes, are together of bulk at most 1048576: NARROWER than '..Said'. Prove '..Said' where nothing that the law and all that it calls make is longer than what came in: it says more and counts as full. Else prove '..UptoSaid'. A law counts once. -/
mutual
def uptoBulk {H : Type} : DataW H → Nat
  | .lit (.string bytes) => bytes.length + 1
  | .lit _ => 1
  | .nil => 1
  | .ptr d => uptoBulk d + 1
  | .slice elems spare => uptoBulkAll elems + uptoBulkAll spare + 1
  | .agg parts => uptoBulkAll parts + 1
  | .iface _ d => uptoBulk d + 1
  | .map entries => uptoBulkEntries entries + 1
  | .held _ => 1
def uptoBulkAll {H : Type} : List (DataW H) → Nat
  | [] => 0
  | d :: r => uptoBulk d + uptoBulkAll r
def uptoBulkEntries {H : Type} : List (Lit × DataW H) → Nat
  | [] => 0
  | x :: r => uptoBulkEntry x + uptoBulkEntries r
def uptoBulkEntry {H : Type} : Lit × DataW H → Nat
  | (.string bytes, d) => bytes.length + uptoBulk d + 1
  | (_, d) => uptoBulk d + 1
 end
def uptoSmall : (H : Type) → List (DataW H) → Bool := fun _ ds => decide (uptoBulkAll ds ≤ 1048576)
def OpenSpec.upto (s : _root_.Go.ChangeSpec) : _root_.Go.OpenSpec := { _root_.Go.OpenSpec.ofChange s with cond := some uptoSmall }

/-- 'ochelaw08.AimEnough', WHERE WHAT IT READS IS OF BULK AT MOST 1048576: true; the input reads as it did. -/
def aimEnoughUptoRow : OpenClaim := { program := "ytnaehbgmfajdjaa", sum := "51c5d73044f3900bd3a074d6e22099ffed3b25a7a96a193b9e6932ac774457c0", func := "oche/ochelaw08.AimEnough", spec := "aimEnough", unfollowed := true, recurses := true, plainKeys := false, apart := false, narrowed := true }
def AimEnoughUptoSaid : Prop := aimEnoughUptoRow.holds Try.pinned (OpenSpec.upto aimEnoughSpec)

/-- 'ochelaw08.AimSooner', WHERE WHAT IT READS IS OF BULK AT MOST 1048576: true; the input reads as it did. -/
def aimSoonerUptoRow : OpenClaim := { program := "ytnaehbgmfajdjaa", sum := "51c5d73044f3900bd3a074d6e22099ffed3b25a7a96a193b9e6932ac774457c0", func := "oche/ochelaw08.AimSooner", spec := "aimSooner", unfollowed := true, recurses := true, plainKeys := false, apart := false, narrowed := true }
def AimSoonerUptoSaid : Prop := aimSoonerUptoRow.holds Try.pinned (OpenSpec.upto aimSoonerSpec)

/-- 'ochelaw08.AimNarrows', WHERE WHAT IT READS IS OF BULK AT MOST 1048576: true; the input reads as it did. -/
def aimNarrowsUptoRow : OpenClaim := { program := "ytnaehbgmfajdjaa", sum := "51c5d73044f3900bd3a074d6e22099ffed3b25a7a96a193b9e6932ac774457c0", func := "oche/ochelaw08.AimNarrows", spec := "aimNarrows", unfollowed := true, recurses := true, plainKeys := false, apart := false, narrowed := true }
def AimNarrowsUptoSaid : Prop := aimNarrowsUptoRow.holds Try.pinned (OpenSpec.upto aimNarrowsSpec)

/-- 'ochelaw08.AimProof', WHERE WHAT IT READS IS OF BULK AT MOST 1048576: true; the input reads as it did. -/
def aimProofUptoRow : OpenClaim := { program := "ytnaehbgmfajdjaa", sum := "51c5d73044f3900bd3a074d6e22099ffed3b25a7a96a193b9e6932ac774457c0", func := "oche/ochelaw08.AimProof", spec := "aimProof", unfollowed := true, recurses := true, plainKeys := false, apart := false, narrowed := true }
def AimProofUptoSaid : Prop := aimProofUptoRow.holds Try.pinned (OpenSpec.upto aimProofSpec)

/-- 'ochelaw08.AimOther', WHERE WHAT IT READS IS OF BULK AT MOST 1048576: true; the input reads as it did. -/
def aimOtherUptoRow : OpenClaim := { program := "ytnaehbgmfajdjaa", sum := "51c5d73044f3900bd3a074d6e22099ffed3b25a7a96a193b9e6932ac774457c0", func := "oche/ochelaw08.AimOther", spec := "aimOther", unfollowed := true, recurses := true, plainKeys := false, apart := false, narrowed := true }
def AimOtherUptoSaid : Prop := aimOtherUptoRow.holds Try.pinned (OpenSpec.upto aimOtherSpec)

/-- 'ochetop.TopOutMean', WHERE WHAT IT READS IS OF BULK AT MOST 1048576: true; the input reads as it did. -/
def topOutMeanUptoRow : OpenClaim := { program := "ytnaehbgmfajdjaa", sum := "51c5d73044f3900bd3a074d6e22099ffed3b25a7a96a193b9e6932ac774457c0", func := "oche/ochetop.TopOutMean", spec := "topOutMean", unfollowed := true, recurses := true, plainKeys := false, apart := false, narrowed := true }
def TopOutMeanUptoSaid : Prop := topOutMeanUptoRow.holds Try.pinned (OpenSpec.upto topOutMeanSpec)

/-- 'ochetop.TopFitAim', WHERE WHAT IT READS IS OF BULK AT MOST 1048576: true; the input reads as it did. -/
def topFitAimUptoRow : OpenClaim := { program := "ytnaehbgmfajdjaa", sum := "51c5d73044f3900bd3a074d6e22099ffed3b25a7a96a193b9e6932ac774457c0", func := "oche/ochetop.TopFitAim", spec := "topFitAim", unfollowed := true, recurses := true, plainKeys := false, apart := false, narrowed := true }
def TopFitAimUptoSaid : Prop := topFitAimUptoRow.holds Try.pinned (OpenSpec.upto topFitAimSpec)

/-- 'ochetop.TopSureLeg', WHERE WHAT IT READS IS OF BULK AT MOST 1048576: true; the input reads as it did. -/
def topSureLegUptoRow : OpenClaim := { program := "ytnaehbgmfajdjaa", sum := "51c5d73044f3900bd3a074d6e22099ffed3b25a7a96a193b9e6932ac774457c0", func := "oche/ochetop.TopSureLeg", spec := "topSureLeg", unfollowed := true, recurses := true, plainKeys := false, apart := false, narrowed := true }
def TopSureLegUptoSaid : Prop := topSureLegUptoRow.holds Try.pinned (OpenSpec.upto topSureLegSpec)

/-- 'ochetop.TopSureAim', WHERE WHAT IT READS IS OF BULK AT MOST 1048576: true; the input reads as it did. -/
def topSureAimUptoRow : OpenClaim := { program := "ytnaehbgmfajdjaa", sum := "51c5d73044f3900bd3a074d6e22099ffed3b25a7a96a193b9e6932ac774457c0", func := "oche/ochetop.TopSureAim", spec := "topSureAim", unfollowed := true, recurses := true, plainKeys := false, apart := false, narrowed := true }
def TopSureAimUptoSaid : Prop := topSureAimUptoRow.holds Try.pinned (OpenSpec.upto topSureAimSpec)

end Rows
end Go.Proofs.Ytnaehbgmfajdjaa
