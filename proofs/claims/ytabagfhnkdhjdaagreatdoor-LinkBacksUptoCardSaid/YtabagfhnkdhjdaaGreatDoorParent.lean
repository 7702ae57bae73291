/- link.parent; the last slash. -/
import Derived.Test.YtabagfhnkdhjdaaGreatDoorEncode
import Derived.Lib.LastIndexByte
set_option linter.unusedVariables false
set_option maxRecDepth 100000
namespace Go.Proofs.YtabagfhnkdhjdaaGreatDoor
open Go.RowKit Go.Lib

theorem extract_upto (s : ByteArray) (k : Nat) : s.extract 0 k = ⟨(s.data.toList.take k).toArray⟩ := by
  apply ByteArray.ext
  apply Array.toList_inj.1
  simp

theorem extract_from (s : ByteArray) (k : Nat) : s.extract k s.size = ⟨(s.data.toList.drop k).toArray⟩ := by
  apply ByteArray.ext
  apply Array.toList_inj.1
  simpa using Lib.extract_to_end s k

/-- Where the last slash stands. -/
def lastSlash : List UInt8 → Option Nat
  | [] => none
  | c :: t => match lastSlash t with
    | some n => some (n + 1)
    | none => if c = 47 then some 0 else none

theorem lastSlash_spec : ∀ l : List UInt8, (lastSlash l = none ∧ ∀ (j : Nat) c, l[j]? = some c → c ≠ 47) ∨ ∃ n, lastSlash l = some n ∧ l[n]? = some 47 ∧ ∀ (j : Nat) c, n < j → l[j]? = some c → c ≠ 47
  | [] => .inl ⟨rfl, fun j c h => by simp at h⟩
  | a :: t => by
    rcases lastSlash_spec t with ⟨h1, h2⟩ | ⟨n, h1, h2, h3⟩
    · by_cases ha : a = 47
      · refine .inr ⟨0, by simp [lastSlash, h1, ha], by simp [ha], fun j c hj hc => ?_⟩
        cases j with
        | zero => omega
        | succ j => exact h2 j c (by simpa using hc)
      · refine .inl ⟨by simp [lastSlash, h1, ha], fun j c hc => ?_⟩
        cases j with
        | zero => simp at hc; rw [← hc]; exact ha
        | succ j => exact h2 j c (by simpa using hc)
    · refine .inr ⟨n + 1, by simp [lastSlash, h1], by simpa using h2, fun j c hj hc => ?_⟩
      cases j with
      | zero => omega
      | succ j => exact h3 j c (by omega) (by simpa using hc)

def lastI (l : List UInt8) : Int := match lastSlash l with
  | some n => n
  | none => -1

theorem get!_toNat (s : ByteArray) (j : Nat) (h : j < s.size) : s.data.toList[j]? = some (s.data[j]!) := by
  have h' : j < s.data.size := h
  rw [getElem!_pos s.data j h', List.getElem?_eq_getElem (by simpa using h')]
  rfl

theorem lastIndex_slash (s : ByteArray) : Lib.lastIndexByte s 47 = lastI s.data.toList := by
  unfold lastI Lib.lastIndexByte
  rcases Lib.lastIdx_spec s 47 s.size with ⟨h1, h2⟩ | ⟨i, hi, h1, h2, h3⟩
  · rw [h1]
    rcases lastSlash_spec s.data.toList with ⟨g1, _⟩ | ⟨n, g1, g2, g3⟩
    · rw [g1]
    · exfalso
      have hn : n < s.size := by
        have := (List.getElem?_eq_some_iff.1 g2).1
        rwa [← size_eq] at this
      have := get!_toNat s n hn
      rw [g2] at this
      have h9 := h2 n hn
      rw [← Option.some.inj this] at h9
      exact h9 rfl
  · rw [h1]
    have hgi := get!_toNat s i hi
    have h47 : (47 : UInt8).toNat = 47 := rfl
    have hi47 : s.data[i]! = 47 := UInt8.toNat_inj.1 (by rw [h47]; omega)
    rw [hi47] at hgi
    rcases lastSlash_spec s.data.toList with ⟨g1, g2⟩ | ⟨n, g1, g2, g3⟩
    · exact absurd rfl (g2 i 47 hgi)
    · rw [g1]
      have hn : n < s.size := by
        have := (List.getElem?_eq_some_iff.1 g2).1
        rwa [← size_eq] at this
      have hgn := get!_toNat s n hn
      rw [g2] at hgn
      by_cases e : n < i
      · exact absurd rfl (g3 i 47 e hgi)
      · by_cases e2 : i < n
        · have := h3 n e2 hn
          simp only [Option.some.injEq] at hgn
          rw [← hgn] at this
          exact absurd rfl this
        · simp only
          omega

def parentL (l : List UInt8) : List UInt8 := match lastSlash l with
  | some n => l.take n
  | none => []

theorem lastI_bd (l : List UInt8) : -1 ≤ lastI l ∧ lastI l < l.length := by
  unfold lastI
  rcases lastSlash_spec l with ⟨h1, _⟩ | ⟨n, h1, h2, _⟩
  · rw [h1]; simp; omega
  · rw [h1]
    have := (List.getElem?_eq_some_iff.1 h2).1
    simp; omega

theorem parentL_take (l : List UInt8) (n : Nat) (h : (n : Int) = max (lastI l) 0) : l.take n = parentL l := by
  unfold parentL
  unfold lastI at h
  cases hl : lastSlash l with
  | none =>
    rw [hl] at h
    have : n = 0 := by
      have h' : (n : Int) = max (-1) 0 := h
      omega
    rw [this]; rfl
  | some m =>
    rw [hl] at h
    have : n = m := by simp at h; omega
    rw [this]

set_option maxHeartbeats 1000000 in
theorem parent_any (s : ByteArray) (w : World) (hs : s.size ≤ 2000000000) :
    Calls Tryz.prog 79 #[.string s] w fun e w' => e = .returned (.string ⟨(parentL s.data.toList).toArray⟩) ∧ w' = w := by
  have hli := Tryz.strings_LastIndexByte s 47 (by omega) w
  rw [lastIndex_slash] at hli
  have hbd := lastI_bd s.data.toList
  rw [← size_eq] at hbd
  obtain ⟨i, hi⟩ : ∃ i, lastI s.data.toList = i := ⟨_, rfl⟩
  rw [hi] at hli hbd
  have HI := Lib.hid hi
  clear hi
  obtain ⟨hb1, hb2⟩ := hbd
  by_cases h0 : 0 ≤ i
  · obtain ⟨n, rfl⟩ := Int.eq_ofNat_of_zero_le h0
    go_enter Tryz.func79, Tryz.ntmps79
    go_wp2_with fail
    refine hli.mono ?_
    clear hli
    rintro e w' ⟨rfl, rfl⟩
    go_wp2_with fail
    go_ret
    refine ⟨?_, rfl⟩
    show Ending.returned (Value.string (s.extract 0 n)) = _
    have HI' : lastI s.data.toList = _ := HI
    rw [← parentL_take s.data.toList n (by omega)]
    exact congrArg (fun z => Ending.returned (Value.string z)) (extract_upto _ _)
  · go_enter Tryz.func79, Tryz.ntmps79
    go_wp2_with fail
    refine hli.mono ?_
    clear hli
    rintro e w' ⟨rfl, rfl⟩
    go_wp2_with fail
    go_ret
    refine ⟨?_, rfl⟩
    show Ending.returned (Value.string (s.extract 0 (max i 0).toNat)) = _
    have HI' : lastI s.data.toList = _ := HI
    rw [← parentL_take s.data.toList (max i 0).toNat (by omega)]
    exact congrArg (fun z => Ending.returned (Value.string z)) (extract_upto _ _)
end Go.Proofs.YtabagfhnkdhjdaaGreatDoor
