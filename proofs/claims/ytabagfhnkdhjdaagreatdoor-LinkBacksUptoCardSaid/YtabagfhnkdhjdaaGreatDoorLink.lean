/- A link in its parts, as a value; sievelaw12.to. -/
import Derived.Test.YtabagfhnkdhjdaaGreatDoorUntil
set_option linter.unusedVariables false
set_option maxRecDepth 100000
namespace Go.Proofs.YtabagfhnkdhjdaaGreatDoor
open Go.RowKit Go.Lib

structure Lk where
  scheme : List UInt8
  host : List UInt8
  path : List UInt8
  query : List UInt8
  frag : List UInt8
  hs : Bool
  hh : Bool
  hq : Bool
  hf : Bool

def str (l : List UInt8) : Value := .string ⟨l.toArray⟩
def lkV (l : Lk) : Value := .agg #[.string ⟨l.scheme.toArray⟩, .string ⟨l.host.toArray⟩, .string ⟨l.path.toArray⟩, .string ⟨l.query.toArray⟩, .string ⟨l.frag.toArray⟩, .bool l.hs, .bool l.hh, .bool l.hq, .bool l.hf]

end Go.Proofs.YtabagfhnkdhjdaaGreatDoor
