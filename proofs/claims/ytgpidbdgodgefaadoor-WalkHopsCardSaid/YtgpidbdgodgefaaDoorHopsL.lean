/- Lines of links: the plain law of WalkHops. Conditions: as the theorems name them. -/
import Derived.Test.YtgpidbdgodgefaaDoorSome
namespace Go.Proofs.YtgpidbdgodgefaaDoor
open Go.RowKit

/-- A link's name. -/
def lnB (i : Nat) : List UInt8 := [108, UInt8.ofNat (97 + i)]
def toB (up : Bool) (i : Nat) : List UInt8 := (if up then [47, 46, 47] else []) ++ (if 0 < i then lnB (i - 1) else [97])
def hopV (up : Bool) (i : Nat) : ItemV := ⟨lnB i, 3, 0, 0, toB up i⟩
def hopsL (n : Nat) (up : Bool) : List ItemV := [⟨[97], 2, 0, 0, []⟩, ⟨[97, 47, 102], 1, 0, 0, []⟩] ++ (List.range n).map (hopV up)
def hopS (n : Nat) (more : Bool) : List UInt8 := (if 0 < n then lnB (n - 1) else [97]) ++ (if more then [47, 102] else [])
def hopW (more : Bool) : List UInt8 := if more then [97, 47, 102] else [97]
theorem hopsL_len (n : Nat) (up : Bool) : (hopsL n up).length = n + 2 := by simp [hopsL]
theorem hops_few : ∀ (n : Fin 9) (up more : Bool), walkT (hopsL n up) (hopS n more) true = (hopW more, true, 0) := by decide +kernel
theorem hops_many : ∀ (n : Fin 3) (up more : Bool), walkT (hopsL (n + 9) up) (hopS (n + 9) more) true = ([], false, 11) := by decide +kernel
end Go.Proofs.YtgpidbdgodgefaaDoor
