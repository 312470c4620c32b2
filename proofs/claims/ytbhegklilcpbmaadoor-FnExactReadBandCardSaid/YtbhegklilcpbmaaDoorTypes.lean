/-
  Short names for the kinds of cells. No program in sight. Our own work.
-/
import Derived.Test.YtbhegklilcpbmaaDoorArr
namespace Go.Wk
open Go Go.RowKit
abbrev w64 (n : Int) : Int := IntKind.i64.wrap n
abbrev cK (k : IntKind) (n : Int) : List Pd := [pEq (.int k n)]
abbrev cB (b : Bool) : List Pd := [pEq (.bool b)]
abbrev cS (s : ByteArray) : List Pd := [pEq (.string s)]
abbrev cSl {α : Type} (k : Nat) (f : α → List Pd) (l : List α) : List Pd := [pSl k f l]
end Go.Wk
