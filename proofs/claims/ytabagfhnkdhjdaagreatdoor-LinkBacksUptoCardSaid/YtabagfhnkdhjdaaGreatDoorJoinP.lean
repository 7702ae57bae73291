/- The parts in one, plain. -/
import Derived.Test.YtabagfhnkdhjdaaGreatDoorMended
set_option linter.unusedVariables false
set_option maxRecDepth 100000
namespace Go.Proofs.YtabagfhnkdhjdaaGreatDoor
open Go.RowKit Go.Lib

def joinL (l : Lk) : List UInt8 :=
  (if l.hs then l.scheme ++ [58] else []) ++ (if l.hh then 47 :: 47 :: l.host else []) ++ l.path ++ (if l.hq then 63 :: l.query else []) ++ (if l.hf then 35 :: l.frag else [])

theorem ret_str {a b : ByteArray} (h : a = b) : Ending.returned (.string a) = Ending.returned (.string b) := by rw [h]

end Go.Proofs.YtabagfhnkdhjdaaGreatDoor
