/- Plain: the document's examples of chapter 8. -/
import Derived.Test.YtnaehbgmfajdjaaLawPure
namespace AimP

def doubleP (start : Nat) : Rules := ⟨2, [(201, [⟨0, 1, 1⟩, ⟨201, 1, 1⟩])], start, 1⟩
def singleP (start : Nat) : Rules := ⟨2, [(201, [⟨0, 0, 1⟩, ⟨101, 0, 1⟩, ⟨201, 1, 1⟩])], start, 1⟩

theorem table_d3u : table (doubleP 3) false = [0, 0, 1142858, 2000000000] := by decide +kernel
theorem table_d3l : table (doubleP 3) true = [0, 0, 1142857, 1000000000] := by decide +kernel
theorem table_s2u : table (singleP 2) false = [0, 0, 2000000] := by decide +kernel
theorem table_s2l : table (singleP 2) true = [0, 0, 1142857] := by decide +kernel
theorem means_d2 : meansV (doubleP 2) false (table (doubleP 2) false) 2 (fun x => val (doubleP 2) false (table (doubleP 2) false) 2 (1 - 1) x) 2 = [571429] := by decide +kernel

end AimP
