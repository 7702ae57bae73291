/- link.Scheme, link.Split. -/
import Derived.Test.YtabagfhnkdhjdaaGreatDoorUntil
set_option linter.unusedVariables false
set_option maxRecDepth 100000
namespace Go.Proofs.YtabagfhnkdhjdaaGreatDoor
open Go.RowKit Go.Lib

theorem strip_len (l : List UInt8) : (strip l).length ≤ 4 * l.length := by
  have h1 := runes_len_le l.length l (Nat.le_refl _)
  have h2 := encAll_len (stripN (runes l))
  have h3 : (stripN (runes l)).length ≤ (runes l).length := by
    unfold stripN
    refine Nat.le_trans (List.length_filter_le _ _) ?_
    have h4 := trimLN_len (trimLN (runes l)).reverse
    have h5 := trimLN_len (runes l)
    unfold trimRN
    rw [List.length_reverse] at h4 ⊢
    omega
  unfold strip
  omega

theorem colonGo_le : ∀ (l : List UInt8) (i n : Nat), colonGo l i = some n → i ≤ n ∧ n < i + l.length
  | [], i, n, h => by simp [colonGo] at h
  | c :: t, i, n, h => by
    unfold colonGo at h
    split at h
    · cases h; simp
    · split at h
      · have := colonGo_le t (i + 1) n h
        simp; omega
      · cases h
theorem colon_lt {l : List UInt8} {n : Nat} (h : colon l = some n) : 1 ≤ n ∧ n < l.length := by
  cases l with
  | nil => simp [colon] at h
  | cons c t =>
    have e : colon (c :: t) = if letB c then colonGo t 1 else none := rfl
    rw [e] at h
    by_cases hb : letB c = true
    · rw [if_pos hb] at h
      have := colonGo_le t 1 n h
      simp; omega
    · rw [if_neg hb] at h; cases h
theorem colN_le (l : List UInt8) : colN l ≤ l.length := by
  unfold colN
  cases h : colon l with
  | none => simp
  | some n => have := colon_lt h; simp; omega

/-- What Scheme hands back. -/
def schemeS (l : List UInt8) : List UInt8 := lower (l.take (colN l))

theorem ret_strb {a b : ByteArray} {x y : Bool} (h : a = b) (h2 : x = y) : Ending.returned (.tuple #[.string a, .bool x]) = Ending.returned (.tuple #[.string b, .bool y]) := by rw [h, h2]

set_option maxHeartbeats 1000000 in
theorem Scheme_any (v : ByteArray) (w : World) (hv : v.size ≤ 500000000) :
    Calls Tryz.prog 50 #[.string v] w fun e w' => e = .returned (.tuple #[.string ⟨(schemeS (strip v.data.toList)).toArray⟩, .bool (colB (strip v.data.toList))]) ∧ Below w.heap.size w w' := by
  have h1 := strip_any v w (by omega)
  have hl := strip_len v.data.toList
  rw [← size_eq] at hl
  obtain ⟨S, hS⟩ : ∃ S, strip v.data.toList = S := ⟨_, rfl⟩
  rw [hS] at h1 hl
  have HS := Lib.hid hS
  clear hS
  obtain ⟨s, hs⟩ : ∃ s : ByteArray, (⟨S.toArray⟩ : ByteArray) = s := ⟨_, rfl⟩
  have hsd : s.data.toList = S := by rw [← hs]
  have hss : s.size ≤ 2000000000 := by rw [size_eq, hsd]; omega
  rw [hs] at h1
  have hc := colN_le S
  have hcs : (colN S : Int) ≤ (s.size : Int) := by rw [size_eq, hsd]; omega
  have h2 := fun w => scheme_any s w (by omega)
  have h3 := fun w => lower_any (s.extract 0 (colN S)) w (by rw [ByteArray.size_extract]; omega)
  rw [hsd] at h2
  rw [take_mk, hsd] at h3
  rw [← hsd, ← take_mk, hsd] at h3
  have hx : (s.extract 0 (colN S)).data.toList = S.take (colN S) := by rw [take_mk, hsd]
  rw [hx] at h3
  have HX := Lib.hid hx
  have HSD := Lib.hid hsd
  clear hs hsd hl hc hx
  go_enter Tryz.func50, Tryz.ntmps50
  go_wp2_with fail
  refine h1.mono ?_
  clear h1
  rintro e w1 ⟨rfl, hb1⟩
  have HB1 := Lib.hid hb1
  clear hb1
  go_wp2_with (go_at_call 36; refine (h2 _).mono ?_; clear h2; rintro e w2 ⟨rfl, rfl⟩)
  refine (h3 _).mono ?_
  clear h3
  rintro e w3 ⟨rfl, hb3⟩
  have HB3 := Lib.hid hb3
  clear hb3
  go_wp2_with fail
  go_ret2
  exact ⟨ret_strb (by rw [HS.out]; rfl) (by rw [HS.out]), HB1.out.trans (HB3.out.mono HB1.out.size)⟩
end Go.Proofs.YtabagfhnkdhjdaaGreatDoor
