/- link.mended: parts as texts. -/
import Derived.Test.YtabagfhnkdhjdaaGreatDoorLink
set_option linter.unusedVariables false
set_option maxRecDepth 100000
namespace Go.Proofs.YtabagfhnkdhjdaaGreatDoor
open Go.RowKit Go.Lib

def mendS (s : ByteArray) : ByteArray := ⟨(mend s.data.toList).toArray⟩
/-- The cells when k texts are mended. -/
def mendRow (ss : List ByteArray) (k : Nat) (bs : List Value) : List Value := ((ss.take k).map fun s => Value.string (mendS s)) ++ (((ss.drop k).map Value.string) ++ bs)

theorem mendRow_at {ss : List ByteArray} {k : Nat} {bs : List Value} {s : ByteArray} (h : ss[k]? = some s) : (mendRow ss k bs)[k]? = some (.string s) := by
  have hk : k < ss.length := (List.getElem?_eq_some_iff.1 h).1
  unfold mendRow
  rw [List.getElem?_append_right (by simp; omega)]
  have e : k - ((ss.take k).map fun s => Value.string (mendS s)).length = 0 := by simp; omega
  rw [e, List.drop_eq_getElem_cons hk]
  have := (List.getElem?_eq_some_iff.1 h).2
  simp [this]

theorem mendRow_set {ss : List ByteArray} {k : Nat} {bs : List Value} {s : ByteArray} (h : ss[k]? = some s) : (mendRow ss k bs).set k (.string (mendS s)) = mendRow ss (k + 1) bs := by
  have hk : k < ss.length := (List.getElem?_eq_some_iff.1 h).1
  have hs := (List.getElem?_eq_some_iff.1 h).2
  unfold mendRow
  have hl : ((ss.take k).map fun s => Value.string (mendS s)).length = k := by simp; omega
  rw [List.set_append_right _ _ (by omega), hl, Nat.sub_self, List.drop_eq_getElem_cons hk, hs, List.take_succ_eq_append_getElem hk, hs]
  simp

theorem mendRow_len (ss : List ByteArray) (k : Nat) (bs : List Value) (hk : k ≤ ss.length) : (mendRow ss k bs).length = ss.length + bs.length := by
  unfold mendRow; simp; omega

def zeroLk : List Value := [.string ⟨#[]⟩, .string ⟨#[]⟩, .string ⟨#[]⟩, .string ⟨#[]⟩, .string ⟨#[]⟩, .bool false, .bool false, .bool false, .bool false]
def ptrs5 (B : Nat) : List Value := [.pointer (some ⟨B, 0, none⟩), .pointer (some ⟨B, 1, none⟩), .pointer (some ⟨B, 2, none⟩), .pointer (some ⟨B, 3, none⟩), .pointer (some ⟨B, 4, none⟩)]
theorem ptrs5_at (B k : Nat) (h : k < 5) : (ptrs5 B)[k]? = some (.pointer (some ⟨B, k, none⟩)) := by
  match k, h with
  | 0, _ => rfl
  | 1, _ => rfl
  | 2, _ => rfl
  | 3, _ => rfl
  | 4, _ => rfl

set_option maxRecDepth 100000 in
set_option maxHeartbeats 4000000 in
theorem mended_any (a b c d f : ByteArray) (x y z u : Bool) (w : World) (hsz : ∀ s ∈ [a, b, c, d, f], s.size ≤ 35184372088831) :
    Calls Tryz.prog 40 #[.agg #[.string a, .string b, .string c, .string d, .string f, .bool x, .bool y, .bool z, .bool u]] w fun e w' =>
      e = .returned (.agg #[.string (mendS a), .string (mendS b), .string (mendS c), .string (mendS d), .string (mendS f), .bool x, .bool y, .bool z, .bool u]) ∧ Below w.heap.size w w' := by
  have HSZ := Lib.hid hsz
  clear hsz
  go_enter Tryz.func40, Tryz.ntmps40
  have hr0 : Hid (RowAt (((w.alloc (.cells #[.string a, .string b, .string c, .string d, .string f, .bool x, .bool y, .bool z, .bool u] 42)).alloc (.cells #[.string ⟨#[]⟩, .string ⟨#[]⟩, .string ⟨#[]⟩, .string ⟨#[]⟩, .string ⟨#[]⟩, .bool false, .bool false, .bool false, .bool false] 42)).alloc (.cells #[.pointer (some ⟨w.heap.size, 0, none⟩), .pointer (some ⟨w.heap.size, 1, none⟩), .pointer (some ⟨w.heap.size, 2, none⟩), .pointer (some ⟨w.heap.size, 3, none⟩), .pointer (some ⟨w.heap.size, 4, none⟩)] 106)) w.heap.size (mendRow [a, b, c, d, f] 0 [.bool x, .bool y, .bool z, .bool u])) :=
    ((RowAt.new w _ _ _ rfl).alloc _).alloc _
  have hr1 : Hid (RowAt (((w.alloc (.cells #[.string a, .string b, .string c, .string d, .string f, .bool x, .bool y, .bool z, .bool u] 42)).alloc (.cells #[.string ⟨#[]⟩, .string ⟨#[]⟩, .string ⟨#[]⟩, .string ⟨#[]⟩, .string ⟨#[]⟩, .bool false, .bool false, .bool false, .bool false] 42)).alloc (.cells #[.pointer (some ⟨w.heap.size, 0, none⟩), .pointer (some ⟨w.heap.size, 1, none⟩), .pointer (some ⟨w.heap.size, 2, none⟩), .pointer (some ⟨w.heap.size, 3, none⟩), .pointer (some ⟨w.heap.size, 4, none⟩)] 106)) (w.heap.size + 1) zeroLk) := by
    have := (RowAt.new (w.alloc (.cells #[.string a, .string b, .string c, .string d, .string f, .bool x, .bool y, .bool z, .bool u] 42)) #[.string ⟨#[]⟩, .string ⟨#[]⟩, .string ⟨#[]⟩, .string ⟨#[]⟩, .string ⟨#[]⟩, .bool false, .bool false, .bool false, .bool false] 42 zeroLk rfl)
    rw [World.size_alloc] at this
    exact this.alloc _
  have hr2 : Hid (RowAt (((w.alloc (.cells #[.string a, .string b, .string c, .string d, .string f, .bool x, .bool y, .bool z, .bool u] 42)).alloc (.cells #[.string ⟨#[]⟩, .string ⟨#[]⟩, .string ⟨#[]⟩, .string ⟨#[]⟩, .string ⟨#[]⟩, .bool false, .bool false, .bool false, .bool false] 42)).alloc (.cells #[.pointer (some ⟨w.heap.size, 0, none⟩), .pointer (some ⟨w.heap.size, 1, none⟩), .pointer (some ⟨w.heap.size, 2, none⟩), .pointer (some ⟨w.heap.size, 3, none⟩), .pointer (some ⟨w.heap.size, 4, none⟩)] 106)) (w.heap.size + 1 + 1) (ptrs5 w.heap.size)) := by
    have := RowAt.new ((w.alloc (.cells #[.string a, .string b, .string c, .string d, .string f, .bool x, .bool y, .bool z, .bool u] 42)).alloc (.cells #[.string ⟨#[]⟩, .string ⟨#[]⟩, .string ⟨#[]⟩, .string ⟨#[]⟩, .string ⟨#[]⟩, .bool false, .bool false, .bool false, .bool false] 42)) #[.pointer (some ⟨w.heap.size, 0, none⟩), .pointer (some ⟨w.heap.size, 1, none⟩), .pointer (some ⟨w.heap.size, 2, none⟩), .pointer (some ⟨w.heap.size, 3, none⟩), .pointer (some ⟨w.heap.size, 4, none⟩)] 106 (ptrs5 w.heap.size) rfl
    rw [World.size_alloc, World.size_alloc] at this
    exact this
  have hb0 : Hid (Below w.heap.size w (((w.alloc (.cells #[.string a, .string b, .string c, .string d, .string f, .bool x, .bool y, .bool z, .bool u] 42)).alloc (.cells #[.string ⟨#[]⟩, .string ⟨#[]⟩, .string ⟨#[]⟩, .string ⟨#[]⟩, .string ⟨#[]⟩, .bool false, .bool false, .bool false, .bool false] 42)).alloc (.cells #[.pointer (some ⟨w.heap.size, 0, none⟩), .pointer (some ⟨w.heap.size, 1, none⟩), .pointer (some ⟨w.heap.size, 2, none⟩), .pointer (some ⟨w.heap.size, 3, none⟩), .pointer (some ⟨w.heap.size, 4, none⟩)] 106))) :=
    (((Below.refl _ _).alloc (Nat.le_refl _) _).alloc (by simp) _).alloc (by simp; omega) _
  go_wp2_with fail
  go_loopw [12, 4] (fun i _ wr => ∃ k : Nat, k ≤ 5 ∧ i = .int .i64 k ∧ RowAt wr w.heap.size (mendRow [a, b, c, d, f] k [.bool x, .bool y, .bool z, .bool u]) ∧ RowAt wr (w.heap.size + 1) zeroLk ∧ RowAt wr (w.heap.size + 1 + 1) (ptrs5 w.heap.size) ∧ Below w.heap.size w wr) (fun i _ _ => 5 - (RowKit.intOf i).toNat)
  case atStart => exact ⟨0, by omega, rfl, hr0.out, hr1.out, hr2.out, hb0.out⟩
  case round =>
    obtain ⟨k, hk, rfl, h0, h1, h2, hb⟩ := hrel
    have H0 := Lib.hid h0
    have H1 := Lib.hid h1
    have H2 := Lib.hid h2
    have HB := Lib.hid hb
    clear h0 h1 h2 hb hr0 hr1 hr2 hb0
    by_cases hlt : k < 5
    · obtain ⟨s, hs⟩ : ∃ s, [a, b, c, d, f][k]? = some s := ⟨_, List.getElem?_eq_getElem (by simpa using hlt)⟩
      have hc1 := H2.out.cell (ptrs5_at w.heap.size k hlt)
      have hc2 := H0.out.cell (mendRow_at (bs := [.bool x, .bool y, .bool z, .bool u]) hs)
      have hm := mend_any s wr (HSZ.out s (List.mem_of_getElem? hs))
      have HS := Lib.hid hs
      clear hs
      have hlen := mendRow_len [a, b, c, d, f] k [.bool x, .bool y, .bool z, .bool u] (by simp; omega)
      have hl0 := H0.out.lt
      have hl1 := H1.out.lt
      have hl2 := H2.out.lt
      go_wp2_with fail
      refine hm.mono ?_
      clear hm
      rintro e w1 ⟨rfl, hb1⟩
      have hc3 : w1.cell? ⟨w.heap.size, k, none⟩ = some (.string s) := (hb1.cell (p := ⟨w.heap.size, k, none⟩) hl0).trans hc2
      have hf3 : w1.frozen? ⟨w.heap.size, k, none⟩ = false := (hb1.frozen (p := ⟨w.heap.size, k, none⟩) hl0).trans (H0.out.frozen (by rw [hlen]; simp; omega))
      have HB1 := Lib.hid hb1
      clear hb1 hlen
      go_wp2_with fail
      go_roundw
      case rel =>
        refine ⟨k + 1, by omega, by go_num, ?_, (H1.out.below HB1.out hl1).other (by simp) _, (H2.out.below HB1.out hl2).other (by simp; omega) _, (HB.out.trans (HB1.out.mono HB.out.size)).setCell (p := ⟨w.heap.size, k, none⟩) (Nat.le_refl _) _⟩
        rw [← mendRow_set HS.out]
        exact (H0.out.below HB1.out hl0).set k _
      case measure => simp [RowKit.intOf]; omega
    · obtain rfl : k = 5 := by omega
      have c0 := H0.out.cell (j := 0) (v := .string (mendS a)) rfl
      have c1 := H0.out.cell (j := 1) (v := .string (mendS b)) rfl
      have c2 := H0.out.cell (j := 2) (v := .string (mendS c)) rfl
      have c3 := H0.out.cell (j := 3) (v := .string (mendS d)) rfl
      have c4 := H0.out.cell (j := 4) (v := .string (mendS f)) rfl
      have c5 := H0.out.cell (j := 5) (v := .bool x) rfl
      have c6 := H0.out.cell (j := 6) (v := .bool y) rfl
      have c7 := H0.out.cell (j := 7) (v := .bool z) rfl
      have c8 := H0.out.cell (j := 8) (v := .bool u) rfl
      have d0 := H1.out.cell (j := 0) (v := .string ⟨#[]⟩) rfl
      have d1 := H1.out.cell (j := 1) (v := .string ⟨#[]⟩) rfl
      have d2 := H1.out.cell (j := 2) (v := .string ⟨#[]⟩) rfl
      have d3 := H1.out.cell (j := 3) (v := .string ⟨#[]⟩) rfl
      have d4 := H1.out.cell (j := 4) (v := .string ⟨#[]⟩) rfl
      have d5 := H1.out.cell (j := 5) (v := .bool false) rfl
      have d6 := H1.out.cell (j := 6) (v := .bool false) rfl
      have d7 := H1.out.cell (j := 7) (v := .bool false) rfl
      have d8 := H1.out.cell (j := 8) (v := .bool false) rfl
      have f0 := H1.out.frozen (j := 0) (by decide)
      have f1 := H1.out.frozen (j := 1) (by decide)
      have f2 := H1.out.frozen (j := 2) (by decide)
      have f3 := H1.out.frozen (j := 3) (by decide)
      have f4 := H1.out.frozen (j := 4) (by decide)
      have f5 := H1.out.frozen (j := 5) (by decide)
      have f6 := H1.out.frozen (j := 6) (by decide)
      have f7 := H1.out.frozen (j := 7) (by decide)
      have f8 := H1.out.frozen (j := 8) (by decide)
      go_wp2_with fail
      refine bodyPost_ret (v := .agg #[.string (mendS a), .string (mendS b), .string (mendS c), .string (mendS d), .string (mendS f), .bool x, .bool y, .bool z, .bool u]) (by simp [results, Tryz.results40, go_sem, d0, d1, d2, d3, d4, d5, d6, d7, d8]) rfl ⟨rfl, ?_⟩
      iterate 9 (refine Below.setCell ?_ (Nat.le_succ _) _)
      exact HB.out
end Go.Proofs.YtabagfhnkdhjdaaGreatDoor
