/- A link in its parts, as a value; sievelaw12.to. -/
import Derived.Test.YtabagfhnkdhjdaaUntil
set_option linter.unusedVariables false
namespace Go.Proofs.Ytabagfhnkdhjdaa
open Go.RowKit Go.Lib

structure Lk where
  scheme : List UInt8
  host : List UInt8
  path : List UInt8
  query : List UInt8
  frag : List UInt8
  hs : Bool
  hh : Bool
  hq : Bool
  hf : Bool

def str (l : List UInt8) : Value := .string ⟨l.toArray⟩
def lkV (l : Lk) : Value := .agg #[.string ⟨l.scheme.toArray⟩, .string ⟨l.host.toArray⟩, .string ⟨l.path.toArray⟩, .string ⟨l.query.toArray⟩, .string ⟨l.frag.toArray⟩, .bool l.hs, .bool l.hh, .bool l.hq, .bool l.hf]

set_option maxHeartbeats 1000000 in
theorem to_any (a b c d f : ByteArray) (x y z u : Bool) (w : World) :
    Calls Try.prog 7 #[.agg #[.string a, .string b, .string c, .string d, .string f, .bool x, .bool y, .bool z, .bool u]] w fun e w' =>
      e = .returned (.agg #[.string a, .string b, .string c, .string d, .string f, .bool x, .bool y, .bool z, .bool u]) ∧ Below w.heap.size w w' := by
  go_enter Try.func7, Try.ntmps7
  go_wp2
  go_show
  refine bodyPost_ret (v := .agg #[.string a, .string b, .string c, .string d, .string f, .bool x, .bool y, .bool z, .bool u]) (by simp [results, Try.results7, go_sem]) rfl ⟨rfl, ?_⟩
  exact ((Below.refl _ _).alloc (Nat.le_refl _) _).alloc (by simp) _
end Go.Proofs.Ytabagfhnkdhjdaa
