/- Rows of cells in memory: what a block holds in its first places, that these may be written; how that is kept. -/
import Derived.WalkKit
import Derived.OneCell
import Derived.Laws.IdiomStrings
import Derived.Lib.UnsafeStr
import Derived.Lib.Strings
import Derived.Lib.IndexBytes
import Derived.Lib.Hide
namespace Go.Proofs.YtabagfhnkdhjdaaGreatDoor
open Go.RowKit Go.Lib

/-- Block b's first cells are xs, and may be written. -/
def RowAt (w : World) (b : Nat) (xs : List Value) : Prop :=
  ∃ C e fr, w.heap[b]? = some (.cells C e fr) ∧ C.toList.take xs.length = xs ∧ (fr = (0, 0) ∨ xs.length ≤ fr.1)

theorem RowAt.lt {w : World} {b : Nat} {xs : List Value} (h : RowAt w b xs) : b < w.heap.size := by
  obtain ⟨C, e, fr, hb, _⟩ := h
  exact lt_of_block hb

theorem RowAt.cell {w : World} {b : Nat} {xs : List Value} (h : RowAt w b xs) {j : Nat} {v : Value} (hj : xs[j]? = some v) : w.cell? ⟨b, j, none⟩ = some v := by
  obtain ⟨C, e, fr, hb, hC, _⟩ := h
  have hlt : j < xs.length := (List.getElem?_eq_some_iff.1 hj).1
  have h2 : C.toList[j]? = some v := by
    rw [← hC, List.getElem?_take, if_pos hlt] at hj
    exact hj
  simp only [World.cell?, hb]
  simpa using h2

theorem RowAt.frozen {w : World} {b : Nat} {xs : List Value} (h : RowAt w b xs) {j : Nat} (hj : j < xs.length) : w.frozen? ⟨b, j, none⟩ = false := by
  obtain ⟨C, e, fr, hb, _, hf⟩ := h
  simp only [World.frozen?, hb]
  rcases hf with rfl | hf
  · simp
  · simp only [Bool.and_eq_false_imp, decide_eq_true_eq, decide_eq_false_iff_not]
    omega

theorem RowAt.same {w w' : World} {b : Nat} {xs : List Value} (h : RowAt w b xs) (he : w'.heap[b]? = w.heap[b]?) : RowAt w' b xs := by
  obtain ⟨C, e, fr, hb, r⟩ := h
  exact ⟨C, e, fr, he.trans hb, r⟩

theorem RowAt.below {B : Nat} {w w' : World} {b : Nat} {xs : List Value} (h : RowAt w b xs) (hb : Below B w w') (hlt : b < B) : RowAt w' b xs := h.same (hb.block b hlt)

theorem RowAt.alloc {w : World} {b : Nat} {xs : List Value} (h : RowAt w b xs) (o : Obj) : RowAt (w.alloc o) b xs := h.same (Below.heap_alloc w o b h.lt)
theorem RowAt.drew {w : World} {b : Nat} {xs : List Value} (h : RowAt w b xs) : RowAt w.drew b xs := h
theorem RowAt.other {w : World} {b : Nat} {xs : List Value} (h : RowAt w b xs) {a : Addr} (hne : b ≠ a.block) (v : Value) : RowAt (w.setCell a v) b xs := h.same (Below.heap_setCell w a v b hne)

theorem RowAt.set {w : World} {b : Nat} {xs : List Value} (h : RowAt w b xs) (j : Nat) (v : Value) : RowAt (w.setCell ⟨b, j, none⟩ v) b (xs.set j v) := by
  obtain ⟨C, e, fr, hb, hC, hf⟩ := h
  refine ⟨C.setIfInBounds j v, e, fr, ?_, ?_, by simpa using hf⟩
  · simp [World.setCell, Array.getElem?_modify, hb]
  · rw [Array.toList_setIfInBounds, List.length_set]
    rw [List.take_set, hC]

theorem RowAt.take {w : World} {b : Nat} {xs : List Value} (h : RowAt w b xs) (n : Nat) : RowAt w b (xs.take n) := by
  obtain ⟨C, e, fr, hb, hC, hf⟩ := h
  refine ⟨C, e, fr, hb, ?_, ?_⟩
  · rw [List.length_take]
    conv => rhs; rw [← hC]
    rw [List.take_take]
  · rcases hf with hf | hf
    · exact .inl hf
    · exact .inr (by rw [List.length_take]; omega)

/-- A new block. -/
theorem RowAt.new (w : World) (C : Array Value) (e : TypeId) (xs : List Value) (h : C.toList.take xs.length = xs) : RowAt (w.alloc (.cells C e)) w.heap.size xs :=
  ⟨C, e, (0, 0), heap_alloc_new w _, h, .inl rfl⟩

/-- What '[]byte(s)' lays. -/
theorem RowAt.bytes (w : World) (s : ByteArray) (cap : Nat) (e : TypeId) :
    RowAt (w.alloc (.cells (bytesRow s cap) e ((bytesRow s cap).size, (bytesRow s cap).size + 1))) w.heap.size (byteCells s.data.toList) := by
  refine ⟨_, _, _, heap_alloc_new w _, ?_, .inr ?_⟩
  · have : byteCells s.data.toList = (s.data.map (fun b => Value.int .u8 b.toNat)).toList := by simp [byteCells]
    rw [this]
    unfold bytesRow
    rw [Array.toList_append]
    rw [List.take_append_of_le_length (by simp), List.take_of_length_le (by simp)]
  · simp [bytesRow, byteCells]

/-- What an append of the call's own owns. -/
theorem RowAt.owned {w : World} {base : Nat} {e : TypeId} {g n cap : Nat} {xs : List Value} (h : w.ownsRow base e 1 (.slice (some ⟨g, 0, none⟩) n cap) n xs) : RowAt w g xs := by
  obtain ⟨hl, h2⟩ := h
  rcases h2 with ⟨h2, _⟩ | ⟨g', cap', cur, hv, _, hg, _, _, _, ht⟩
  · cases h2
  · cases hv
    refine ⟨cur, e, (0, 0), hg, ?_, .inl rfl⟩
    rw [hl]; exact ht

theorem byteCells_at {l : List UInt8} {j : Nat} {b : UInt8} (h : l[j]? = some b) : (byteCells l)[j]? = some (.int .u8 b.toNat) := by
  simp [byteCells, h]
theorem byteCells_len (l : List UInt8) : (byteCells l).length = l.length := by simp [byteCells]

theorem add_at (b j : Nat) : (⟨b, 0, none⟩ : Addr).add j = ⟨b, j, none⟩ := by
  unfold Addr.add
  by_cases h : j = 0
  · simp [h]
  · simp [h]

/-- 'string(b)' of a row of bytes. -/
theorem RowAt.string {P : Program} {w : World} {b : Nat} {l : List UInt8} (h : RowAt w b (byteCells l)) (src dst e : TypeId) (n cap : Nat) (hn : n = l.length) (hs : P.underlying src = some (.slice e)) (he : P.underlying e = some (.int .u8)) (hd : P.underlying dst = some .string) :
    (convert src dst (.slice (some ⟨b, 0, none⟩) n cap)).run P w = .ok (.string ⟨l.toArray⟩) w := by
  subst hn
  refine run_convert_bytes_back w src dst e ⟨b, 0, none⟩ cap l hs he hd (fun j hj => ?_)
  rw [add_at]
  exact h.cell (byteCells_at (List.getElem?_eq_getElem hj))

theorem drop_at (s : ByteArray) (k : Nat) (h : k < s.size) : s.data.toList.drop k = s[k] :: s.data.toList.drop (k + 1) := by
  have h' : k < s.data.toList.length := by rw [← size_eq]; exact h
  rw [List.drop_eq_getElem_cons h']
  rfl

theorem drop_end (s : ByteArray) (k : Nat) (h : s.size ≤ k) : s.data.toList.drop k = [] := List.drop_of_length_le (by rw [← size_eq]; exact h)

end Go.Proofs.YtabagfhnkdhjdaaGreatDoor
