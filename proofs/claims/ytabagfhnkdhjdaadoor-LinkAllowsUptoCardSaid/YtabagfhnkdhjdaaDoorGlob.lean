/- What the row's listed variables and the world's shape give; a slice of strings that came in. -/
import Derived.Test.YtabagfhnkdhjdaaDoorRows
import Derived.Test.YtabagfhnkdhjdaaDoorTidyW
import Derived.ProofKit
import Derived.OpenShut
import Derived.SliceStrings
import Derived.Lib.LaidTab
import Derived.Shelf.LaysM
set_option linter.unusedVariables false
set_option maxRecDepth 100000
namespace Go.Proofs.YtabagfhnkdhjdaaDoor
open Go.ChangeShapes Go.WideShapes Go.ChangeAt Go.RowKit Go.Lib

theorem own : ownKnob Tryd.prog.godebug = none := by kernel_rfl
theorem laidOut : laidOutB Tryd.prog = true := by kernel_rfl
theorem gNever : Tryd.prog.globalNamed "sieve/link.never" = some 0 := by kernel_rfl
theorem gNeverType : (Tryd.prog.globals[0]?).map (·.type) = some 63 := by kernel_rfl
theorem cellsArr : Tryd.prog.cellsOf 63 = 7 := by kernel_rfl
theorem cellsStr : Tryd.prog.cellsOf 9 = 1 := by kernel_rfl

/-- An array of strings that reads as these texts holds them, cell for cell. -/
theorem cells_of_strs {H : Type} {enc : TypeId × Value → H} {P : Program} {w : World} {base : Nat} {sp : Nat → Bool} {held : Bool} {fuel : Nat} {t e : TypeId} {n : Nat} {cs : List Value} {zs : List (List UInt8)} {p : List MemPlace}
    (ht : P.underlying t = some (.array n e)) (he : P.underlying e = some .string) (hce : P.cellsOf e = 1) (hct : P.cellsOf t = n)
    (h : DataW.trod enc P w base sp held fuel t cs = some (.agg (zs.map fun z => .lit (.string z)), p)) : cs = zs.map fun z => Value.string ⟨z.toArray⟩ := by
  cases fuel with
  | zero => simp [DataW.trod] at h
  | succ fuel =>
    simp only [DataW.trod, ht, hce, hct, Nat.mul_one] at h
    split at h
    · rename_i hl
      obtain ⟨xs, hm, hx⟩ := Option.map_eq_some_iff.1 h
      have hxs : xs.map (·.1) = zs.map fun z => (DataW.lit (.string z) : DataW H) := by
        have := congrArg Prod.fst hx
        simpa using this
      have hxl : xs.length = n := by simpa using Lib.mapM_length hm
      have hzl : zs.length = n := by
        have := congrArg List.length hxs
        simp at this
        omega
      apply List.ext_getElem?
      intro i
      by_cases hi : i < n
      · obtain ⟨b, hb, hf⟩ := Lib.mapM_at hm i i (by simp [hi])
        obtain ⟨z, hc, rfl, _⟩ := DataW.trod_string he hf
        have h1 : cs[i]? = some (.string z) := by
          have := congrArg (·[0]?) hc
          simpa [List.getElem?_take, List.getElem?_drop] using this
        have h2 : (xs.map (·.1))[i]? = some (DataW.lit (.string z.data.toList) : DataW H) := by simp [hb]
        rw [hxs] at h2
        simp only [List.getElem?_map, Option.map_eq_some_iff, DataW.lit.injEq, Lit.string.injEq] at h2
        obtain ⟨z', hz', e⟩ := h2
        simp [h1, hz', e]
      · rw [List.getElem?_eq_none (by omega), List.getElem?_eq_none (by simp; omega)]
    · cases h

/-- The second listed variable. -/
theorem never_of {W : World} {x : String × DataW Unit} {rest : List (String × DataW Unit)} (h : laidMet Tryd.prog (x :: ("sieve/link.never", Rows.laid_sieve_link_never) :: rest) W) : NvAt W := by
  obtain ⟨ps, ⟨_, _, _, _, _, q, _, _, _, _, ⟨g', t', cs, fuel, p, q', hg', ht', hvar, hd, _, _⟩, _⟩, _⟩ := h
  obtain rfl := Option.some.inj (gNever.symm.trans hg')
  obtain rfl := Option.some.inj (gNeverType.symm.trans ht')
  have hd' : DataW.trod (fun _ => ()) Tryd.prog W 0 (fun _ => true) false fuel 63 cs.toList = some (.agg (neverL.map fun z => .lit (.string z)), p) := hd
  have hc := cells_of_strs Tryd.underlying63 Tryd.underlying9 cellsStr cellsArr hd'
  have hcell : ∀ (j : Nat) (v : Value), neverRow[j]? = some v → W.cell? ⟨0, j, none⟩ = some v := fun j v hj => by
    have := World.var?_cell gNever hvar j
    rw [this, ← Array.getElem?_toList, hc]
    exact hj
  exact ⟨cell_blk (hcell 0 _ rfl), hcell⟩

theorem glob_of {W : World} {x : String × DataW Unit} {rest : List (String × DataW Unit)} (h : laidMet Tryd.prog (x :: ("sieve/link.never", Rows.laid_sieve_link_never) :: rest) W) (hsh : W.ShapedOpen Tryd.prog) : Glob W := by
  obtain ⟨m, hm⟩ : ∃ m, W.cell? ⟨1, 0, none⟩ = some (.int .i64 m) := Tryd.laysM144.s1_3 W hsh
  exact ⟨never_of h, cell_blk hm, m, hm⟩

/-! What the bound gives. -/
theorem bulk_pos {H : Type} (d : DataW H) : 1 ≤ Rows.uptoBulk d := by
  cases d with
  | lit l => cases l <;> simp [Rows.uptoBulk]
  | nil => simp [Rows.uptoBulk]
  | ptr d => simp [Rows.uptoBulk]
  | slice elems spare => simp [Rows.uptoBulk]
  | agg parts => simp [Rows.uptoBulk]
  | iface t d => simp [Rows.uptoBulk]
  | map entries => simp [Rows.uptoBulk]
  | held h => simp [Rows.uptoBulk]
theorem bulk_strs {H : Type} : ∀ (l : List ByteArray), l.length ≤ Rows.uptoBulkAll (strs (H := H) l) ∧ ∀ s ∈ l, s.size ≤ Rows.uptoBulkAll (strs (H := H) l)
  | [] => ⟨Nat.zero_le _, by simp⟩
  | x :: l => by
    obtain ⟨h1, h2⟩ := bulk_strs (H := H) l
    have e : Rows.uptoBulkAll (strs (H := H) (x :: l)) = x.size + 1 + Rows.uptoBulkAll (strs (H := H) l) := by
      have hsz : x.data.toList.length = x.size := by rw [Array.length_toList]; rfl
      simp only [strs, List.map_cons, Rows.uptoBulkAll, Rows.uptoBulk, hsz]
    rw [e]
    refine ⟨by simp; omega, fun s hs => ?_⟩
    rcases List.mem_cons.1 hs with rfl | hs
    · omega
    · have := h2 s hs; omega

/-- A slice of strings that came in. -/
theorem open_strs {H : Type} {enc : TypeId × Value → H} {W : World} {base : Nat} {v : Value} {d : DataW H} {p : List MemPlace} (hv : Value.okWide Tryd.prog W .any base 22 v)
    (h : DataW.Trod enc Tryd.prog W 0 (fun _ => true) true 22 v d p) :
    ∃ l : List ByteArray, StrsAt W v l ∧ ∀ n, Rows.uptoBulk d ≤ n → l.length ≤ n ∧ ∀ s ∈ l, s.size ≤ n := by
  obtain ⟨a0, len, cap, rfl⟩ := okWide_slice Tryd.underlying22 hv
  obtain ⟨fuel, hf⟩ := h
  have hf' : DataW.trod enc Tryd.prog W 0 (fun _ => true) true fuel 22 [.slice a0 len cap] = some (d, p) := hf
  rcases open_strings Tryd.underlying22 Tryd.underlying9 cellsStr hf' with ⟨hcs, hx⟩ | ⟨a, len', cap', ss, hcs, _, hl, hm, hz, hx, hcell, _⟩
  · simp at hcs
    obtain ⟨rfl, rfl, rfl⟩ := hcs
    exact ⟨[], .inl ⟨rfl, rfl⟩, fun n _ => ⟨Nat.zero_le _, by simp⟩⟩
  · simp at hcs
    obtain ⟨rfl, rfl, rfl⟩ := hcs
    simp only [if_true] at hz
    obtain rfl := (Prod.mk.inj hx).1
    have hll : (ss.take len).length = len := by simp; omega
    refine ⟨ss.take len, .inr ⟨a, cap, by rw [hll], by omega, fun i s hi => ?_⟩, fun n hn => ?_⟩
    · have hi2 : i < len := by
        have := (List.getElem?_eq_some_iff.1 hi).1
        omega
      rw [hcell i (by omega)]
      rw [List.getElem?_take_of_lt hi2] at hi
      simp [List.getD, hi]
    · obtain ⟨b1, b2⟩ := bulk_strs (H := H) (ss.take len)
      simp only [Rows.uptoBulk] at hn
      exact ⟨by omega, fun s hs => by have := b2 s hs; omega⟩

/-! A world for the witness: the settled one, the listed variables holding what the program lays. -/
def accRow : Array Value := ([128, 191, 160, 191, 128, 159, 144, 191, 128, 143, 0, 0, 0, 0, 0, 0, 0, 0, 0, 0, 0, 0, 0, 0, 0, 0, 0, 0, 0, 0, 0, 0].map fun (n : Nat) => Value.int .u8 (n : Int)).toArray
def firstRow : Array Value := (Go.Pinned.utf8FirstZ.map fun (n : Nat) => Value.int .u8 (n : Int)).toArray
def holdCells (cs : Array Value) : Obj → Obj
  | .cells _ t frozen => .cells cs t frozen
  | o => o
noncomputable def laidWorld (os : Os) : World :=
  { World.holding Tryd.prog os ⟨#[], #[], []⟩ with heap := (((World.holding Tryd.prog os ⟨#[], #[], []⟩).heap.modify 0 (holdCells neverRow.toArray)).modify 2 (holdCells firstRow)).modify 3 (holdCells accRow) }
def emptyArgs : Array Value := #[.string .empty, .slice none 0 0, .bool false]

end Go.Proofs.YtabagfhnkdhjdaaDoor
