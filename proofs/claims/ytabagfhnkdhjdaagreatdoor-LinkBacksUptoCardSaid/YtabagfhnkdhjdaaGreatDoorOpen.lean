/- What came in: slices of structs of two texts; a struct of two texts; what the bound gives of them; what the world's shape gives. -/
import Derived.Test.YtabagfhnkdhjdaaGreatDoorRows
import Derived.Test.YtabagfhnkdhjdaaGreatDoorBv
import Derived.Test.YtabagfhnkdhjdaaGreatDoorPairs
import Derived.ProofKit
import Derived.OpenShut
import Derived.SliceStrings
import Derived.Lib.SmallJoins
import Derived.Lib.LaidTab
import Derived.Shelf.LaysM
set_option linter.unusedVariables false
set_option maxRecDepth 100000
namespace Go.Proofs.YtabagfhnkdhjdaaGreatDoor
open Go.ChangeShapes Go.WideShapes Go.ChangeAt Go.RowKit Go.Lib Go.Deep Go.Joins

theorem own : ownKnob Tryz.prog.godebug = none := by kernel_rfl
theorem laidOut : laidOutB Tryz.prog = true := by kernel_rfl

/-- The two texts of a datum that has two. -/
def pairOf {H : Type} (y : DataW H × List MemPlace) : ByteArray × ByteArray := match y.1 with
  | .agg [.lit (.string a), .lit (.string b)] => (⟨a.toArray⟩, ⟨b.toArray⟩)
  | _ => (.empty, .empty)
def TwoOf {H : Type} (y : DataW H × List MemPlace) : Prop := y.1 = .agg [.lit (.string (pairOf y).1.data.toList), .lit (.string (pairOf y).2.data.toList)]
theorem pairOf_mk {H : Type} (a b : ByteArray) (p : List MemPlace) : pairOf ((.agg [.lit (.string a.data.toList), .lit (.string b.data.toList)], p) : DataW H × List MemPlace) = (a, b) := by
  cases a
  cases b
  simp [pairOf]

theorem bulk_two {H : Type} (a b : ByteArray) : Rows.uptoBulk (.agg [.lit (.string a.data.toList), .lit (.string b.data.toList)] : DataW H) = a.size + b.size + 3 := by
  have h1 : a.data.toList.length = a.size := by rw [Array.length_toList]; rfl
  have h2 : b.data.toList.length = b.size := by rw [Array.length_toList]; rfl
  simp only [Rows.uptoBulk, Rows.uptoBulkAll, h1, h2]
  omega
theorem bulk_pairs {H : Type} : ∀ (l : List (DataW H × List MemPlace)), (∀ y ∈ l, TwoOf y) → sumB (l.map pairOf) ≤ Rows.uptoBulkAll (l.map (·.1))
  | [], _ => Nat.zero_le _
  | y :: l, h => by
    have ih := bulk_pairs l (fun z hz => h z (List.mem_cons_of_mem _ hz))
    have hy : y.1 = _ := h y List.mem_cons_self
    simp only [List.map_cons, Rows.uptoBulkAll, sumB]
    rw [hy, bulk_two]
    omega

/-- A slice of structs of two texts, as it came in. -/
theorem open_pairs {H : Type} {enc : TypeId × Value → H} {P : Program} {W : World} {base : Nat} {t e : TypeId} {f0 f1 : Field} {v : Value} {d : DataW H} {p : List MemPlace} (ht : P.underlying t = some (.slice e)) (he : P.underlying e = some (.struct #[f0, f1]))
    (hone : oneCellFields P #[f0, f1] = true) (hc : P.cellsOf e = 2) (k0 : P.underlying f0.type = some .string) (k1 : P.underlying f1.type = some .string)
    (hv : Value.okWide P W .any base t v) (h : DataW.Trod enc P W 0 (fun _ => true) true t v d p) : ∃ l : List (ByteArray × ByteArray), PairsAt W v l ∧ sumB l ≤ Rows.uptoBulk d := by
  obtain ⟨a0, len, cap, rfl⟩ := okWide_slice ht hv
  obtain ⟨fuel, hf⟩ := h
  have hf' : DataW.trod enc P W 0 (fun _ => true) true fuel t [.slice a0 len cap] = some (d, p) := hf
  rcases DataW.trod_slice ht hf' with ⟨hcs, hx⟩ | ⟨a, len', cap', elems, rest, n, _, hcs, hx, hb, hl, hm, hlen, hel, hsp, hns⟩
  · simp at hcs
    obtain ⟨rfl, rfl, rfl⟩ := hcs
    exact ⟨[], ⟨none, 0, rfl, Nat.le_refl _, fun i p hi => by simp at hi⟩, Nat.zero_le _⟩
  · simp at hcs
    obtain ⟨rfl, rfl, rfl⟩ := hcs
    obtain ⟨o0, c0⟩ := hone_of hone 0 f0 rfl
    obtain ⟨o1, c1⟩ := hone_of hone 1 f1 rfl
    have each : ∀ i y, elems[i]? = some y → TwoOf y ∧ W.cell? (a.add (i * 2)) = some (.string (pairOf y).1) ∧ W.cell? ⟨(a.add (i * 2)).block, (a.add (i * 2)).off + 1, none⟩ = some (.string (pairOf y).2) := by
      intro i y hy
      have hi : i < len := by
        have := (List.getElem?_eq_some_iff.1 hy).1
        omega
      have hb' := hel i hi
      rw [hc, hy, Option.bind_eq_some_iff] at hb'
      obtain ⟨cs', hcs', hy'⟩ := hb'
      obtain ⟨_, hl2, hcell⟩ := World.cells?_some hcs'
      obtain ⟨y0, y1, m, rfl, _, h0, h1⟩ := trod_struct2 he hy'
      rw [o0, c0] at h0
      rw [o1, c1] at h1
      obtain ⟨s0, e0, rfl, _⟩ := DataW.trod_string k0 h0
      obtain ⟨s1, e1, rfl, _⟩ := DataW.trod_string k1 h1
      have g0 := hcell 0 (by omega)
      have g1 := hcell 1 (by omega)
      match cs', hl2 with
      | [u0, u1], _ =>
        simp at e0 e1 g0 g1
        subst e0 e1
        have hp := pairOf_mk (H := H) s0 s1 ([] ++ [])
        refine ⟨?_, ?_, ?_⟩
        · show _ = _
          rw [hp]
        · rw [hp]; exact g0
        · rw [hp]; exact g1
    have hall : ∀ y ∈ elems, TwoOf y := fun y hy => by
      obtain ⟨i, hi⟩ := List.getElem?_of_mem hy
      exact (each i y hi).1
    have hll : (elems.map pairOf).length = len := by rw [List.length_map, hlen]
    refine ⟨elems.map pairOf, ⟨some a, cap, by rw [hll], by omega, fun i q hi => ?_⟩, ?_⟩
    · rw [List.getElem?_map] at hi
      obtain ⟨y, hy, rfl⟩ := Option.map_eq_some_iff.1 hi
      exact ⟨a, rfl, (each i y hy).2⟩
    · obtain rfl := (Prod.mk.inj hx).1
      have := bulk_pairs elems hall
      simp only [Rows.uptoBulk]
      omega

/-- A struct of two texts, as it came in. -/
theorem open_two {H : Type} {enc : TypeId × Value → H} {P : Program} {W : World} {base : Nat} {t : TypeId} {f0 f1 : Field} {v : Value} {d : DataW H} {p : List MemPlace} (he : P.underlying t = some (.struct #[f0, f1]))
    (hone : oneCellFields P #[f0, f1] = true) (hc : P.cellsOf t = 2) (k0 : P.underlying f0.type = some .string) (k1 : P.underlying f1.type = some .string)
    (hv : Value.okWide P W .any base t v) (h : DataW.Trod enc P W 0 (fun _ => true) true t v d p) : ∃ a b : ByteArray, v = .agg #[.string a, .string b] ∧ a.size + b.size + 3 ≤ Rows.uptoBulk d := by
  obtain ⟨v0, v1, y0, y1, n, rfl, rfl, rfl, h0, h1⟩ := open_agg2 he hone hc hv h
  obtain ⟨s0, e0, rfl, _⟩ := DataW.trod_string k0 h0
  obtain ⟨s1, e1, rfl, _⟩ := DataW.trod_string k1 h1
  simp at e0 e1
  subst e0 e1
  exact ⟨s0, s1, rfl, by rw [bulk_two]; exact Nat.le_refl _⟩

theorem max_of {W : World} (hsh : W.ShapedOpen Tryz.prog) : MaxAt W := by
  obtain ⟨m, hm⟩ : ∃ m, W.cell? ⟨0, 0, none⟩ = some (.int .i64 m) := Tryz.laysM143.s1_3 W hsh
  exact ⟨cell_in hm, m, hm⟩

/-! A world for the witness: the settled one, the listed variables holding what the program lays. -/
def accRow : Array Value := ([128, 191, 160, 191, 128, 159, 144, 191, 128, 143, 0, 0, 0, 0, 0, 0, 0, 0, 0, 0, 0, 0, 0, 0, 0, 0, 0, 0, 0, 0, 0, 0].map fun (n : Nat) => Value.int .u8 (n : Int)).toArray
def firstRow : Array Value := (Go.Pinned.utf8FirstZ.map fun (n : Nat) => Value.int .u8 (n : Int)).toArray
def holdCells (cs : Array Value) : Obj → Obj
  | .cells _ t frozen => .cells cs t frozen
  | o => o
noncomputable def laidWorld (os : Os) : World :=
  { World.holding Tryz.prog os ⟨#[], #[], []⟩ with heap := ((World.holding Tryz.prog os ⟨#[], #[], []⟩).heap.modify 1 (holdCells firstRow)).modify 2 (holdCells accRow) }
def emptyArgs : Array Value := #[.slice none 0 0, .slice none 0 0, .agg #[.string .empty, .string .empty]]

end Go.Proofs.YtabagfhnkdhjdaaGreatDoor
