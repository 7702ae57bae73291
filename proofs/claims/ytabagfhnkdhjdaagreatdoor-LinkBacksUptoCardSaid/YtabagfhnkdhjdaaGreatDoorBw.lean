/- A region that draws its order, whose own operations only read and whose callees leave what was there alone: one walk. -/
import Derived.Test.YtabagfhnkdhjdaaGreatDoorColon
import Derived.BigQuiet
import Derived.Deep.DeepCutAuto
set_option linter.unusedVariables false
set_option maxRecDepth 100000
namespace Go.Proofs.YtabagfhnkdhjdaaGreatDoor
open Go.RowKit Go.Lib

/-- A world behind w0 in which all that was there is as it was. -/
structure BW (w0 : World) where
  world : World
  ok : Below w0.heap.size w0 world

instance (w0 : World) : Nonempty (BW w0) := ⟨⟨w0, Below.refl _ _⟩⟩

theorem wp_region_bw {P : Program} {id : Nat} {Q : Exit → Act → World → Prop} {a : Act} {w : World} {l : List Oper} (hm : P.follows .mixedOrders = true) (hB : Region.lexB .any l.toArray = true)
    (h : wpQuiet P l.toArray (fun w' => ∃ x : BW w, w' = x.world) (fun a' => ∀ w', (∃ x : BW w, w' = x.world) → Q .normal a' w') l a) : (Code.region id l.toArray true).wp P Q a w :=
  wp_region_quiet (C := fun w' => ∃ x : BW w, w' = x.world) hm hB ⟨⟨{ w with drawn := w.drawn + 1 }, ⟨rfl, rfl, rfl, Nat.le_refl _, fun _ _ => rfl⟩⟩, rfl⟩ (by simpa using h)

theorem bw_call {P : Program} {f : FuncId} {args : Array Value} {w0 : World} {x : BW w0} {v : Value}
    (h : Calls P f args x.world fun e w' => e = .returned v ∧ Below x.world.heap.size x.world w') : Calls P f args x.world fun e w'' => e = .returned v ∧ ∃ y : BW w0, w'' = y.world :=
  h.mono fun _ w' ⟨he, hb⟩ => ⟨he, ⟨w', x.ok.trans (hb.mono x.ok.size)⟩, rfl⟩
theorem bw_call_same {P : Program} {f : FuncId} {args : Array Value} {w0 : World} {x : BW w0} {v : Value}
    (h : Calls P f args x.world fun e w' => e = .returned v ∧ w' = x.world) : Calls P f args x.world fun e w'' => e = .returned v ∧ ∃ y : BW w0, w'' = y.world :=
  h.mono fun _ w' ⟨he, hb⟩ => ⟨he, x, hb⟩

end Go.Proofs.YtabagfhnkdhjdaaGreatDoor
