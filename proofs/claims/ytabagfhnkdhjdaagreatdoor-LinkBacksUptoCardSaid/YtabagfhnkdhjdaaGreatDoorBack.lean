/- LinkBack: the plain law: the parts joined are the link; parted again they are the parts. -/
import Derived.Test.YtabagfhnkdhjdaaGreatDoorColon
import Derived.Test.YtabagfhnkdhjdaaGreatDoorSplitW
import Derived.Test.YtabagfhnkdhjdaaGreatDoorJoinP
set_option linter.unusedVariables false
set_option maxRecDepth 100000
namespace Go.Proofs.YtabagfhnkdhjdaaGreatDoor
open Go.RowKit Go.Lib

theorem host_join (s : List UInt8) : (if spHH s then 47 :: 47 :: spHost s else []) ++ sp2 s = s := by
  unfold spHost sp2
  by_cases h : spHH s = true
  · rw [if_pos h, if_pos h, if_pos h, List.cons_append, List.cons_append, until_join]
    exact (hasPrefix_eq h).symm
  · rw [if_neg h, if_neg h]; rfl
theorem query_join (s : List UInt8) : (if spHQ s then 63 :: spQuery s else []) ++ sp4 s = s := by
  unfold spQuery sp4
  by_cases h : spHQ s = true
  · rw [if_pos h, if_pos h, if_pos h, List.cons_append, until_join]
    exact (hasPrefix_eq h).symm
  · rw [if_neg h, if_neg h]; rfl
/-- Behind the query: nothing, or a '#'. -/
theorem sp4_head (x : List UInt8) (b : UInt8) (t : List UInt8) (h : sp4 (sp3 x) = b :: t) : b = 35 := by
  unfold sp4 at h
  split at h
  · have := untilB_head h
    simpa [spHash] using this
  · rename_i hq
    have h3 : untilB x spQuest = b :: t := h
    have := untilB_head h3
    unfold spHQ sp3 at hq
    rw [h3, hp1] at hq
    simp [spQuest] at this hq
    rcases this with h | h
    · exact absurd h.symm hq
    · exact h
theorem frag_join (x : List UInt8) : (if spHF (sp4 (sp3 x)) then 35 :: spFrag (sp4 (sp3 x)) else []) = sp4 (sp3 x) := by
  cases h : sp4 (sp3 x) with
  | nil => rfl
  | cons b t =>
    have := sp4_head x b t h
    subst this
    rfl

theorem rest_join (s : List UInt8) : (if spHH s then 47 :: 47 :: spHost s else []) ++ (spPath (sp2 s) ++ ((if spHQ (sp3 (sp2 s)) then 63 :: spQuery (sp3 (sp2 s)) else []) ++ (if spHF (sp4 (sp3 (sp2 s))) then 35 :: spFrag (sp4 (sp3 (sp2 s))) else []))) = s := by
  rw [frag_join, query_join]
  have : spPath (sp2 s) ++ sp3 (sp2 s) = sp2 s := until_join _ _
  rw [this, host_join]

theorem join_split (s : List UInt8) : joinL (splitL s) = (if colB s then schemeS s ++ [58] else []) ++ sp1 s := by
  have h := rest_join (sp1 s)
  have e : joinL (splitL s) = (if colB s then spScheme s ++ [58] else []) ++ (if spHH (sp1 s) then 47 :: 47 :: spHost (sp1 s) else []) ++ spPath (sp2 (sp1 s)) ++ (if spHQ (sp3 (sp2 (sp1 s))) then 63 :: spQuery (sp3 (sp2 (sp1 s))) else []) ++ (if spHF (sp4 (sp3 (sp2 (sp1 s)))) then 35 :: spFrag (sp4 (sp3 (sp2 (sp1 s)))) else []) := rfl
  rw [e, List.append_assoc, List.append_assoc, List.append_assoc, h]
  by_cases hb : colB s = true
  · unfold spScheme; rw [if_pos hb, if_pos hb, if_pos hb]
  · rw [if_neg hb, if_neg hb]

/-- What the law says, of a stripped text. -/
theorem back_scheme {s : List UInt8} (hc : Clean s) (h : colB s = true) :
    (joinL (splitL s)).length = s.length ∧ lower (s.take (spScheme s).length) = spScheme s ∧ (joinL (splitL s)).take (spScheme s).length = spScheme s ∧
    (joinL (splitL s)).drop (spScheme s).length = s.drop (spScheme s).length ∧ splitL (strip (joinL (splitL s))) = splitL s ∧ (spScheme s).length ≤ s.length ∧ spScheme s = schemeS s := by
  have h' := h
  unfold colB at h'
  obtain ⟨n, hn⟩ := Option.isSome_iff_exists.1 h'
  obtain ⟨A, B, rfl, _, hA⟩ := colon_split hn
  obtain ⟨e1, e2, e3⟩ := split_scheme B hA
  obtain ⟨f1, f2, f3⟩ := split_scheme B hA.lower
  have hj : joinL (splitL (A ++ 58 :: B)) = lower A ++ 58 :: B := by rw [join_split, if_pos e1, e2, e3]; simp
  have hsp : spScheme (A ++ 58 :: B) = lower A := by unfold spScheme; rw [if_pos e1, e3]
  have hcl := clean_strip (clean_scheme hA hc)
  rw [hj, hsp, hcl, lower_length]
  refine ⟨by simp [lower_length], by simp, by rw [← lower_length A]; simp, ?_, ?_, by simp, by rw [e3]⟩
  · have : (lower A ++ 58 :: B).drop A.length = 58 :: B := by rw [← lower_length A]; simp
    rw [this]; simp
  · unfold splitL
    have hsp2 : spScheme (lower A ++ 58 :: B) = lower A := by unfold spScheme; rw [if_pos f1, f3, lower_lower]
    rw [hsp, hsp2, e1, f1, e2, f2]

theorem back_plain {s : List UInt8} (hc : Clean s) (h : colB s = false) : joinL (splitL s) = s ∧ splitL (strip (joinL (splitL s))) = splitL s := by
  have hj : joinL (splitL s) = s := by
    rw [join_split, h]
    unfold sp1
    rw [h]; rfl
  rw [hj, clean_strip hc]
  exact ⟨rfl, rfl⟩

def mendLk (l : Lk) : Lk := ⟨mend l.scheme, mend l.host, mend l.path, mend l.query, mend l.frag, l.hs, l.hh, l.hq, l.hf⟩

theorem asc_slash : ∀ b ∈ spSlash, b.toNat < 128 := by decide
theorem asc_quest : ∀ b ∈ spQuest, b.toNat < 128 := by decide
theorem asc_hash : ∀ b ∈ spHash, b.toNat < 128 := by decide

/-- The parts of a valid text are valid. -/
theorem split_valid {s : List UInt8} (hs : Valid s) : mendLk (splitL s) = splitL s ∧ Valid (spHost (sp1 s)) ∧ Valid (spPath (sp2 (sp1 s))) ∧ Valid (spQuery (sp3 (sp2 (sp1 s)))) ∧ Valid (spFrag (sp4 (sp3 (sp2 (sp1 s))))) ∧ Valid (spScheme s) := by
  have hsc : Valid (spScheme s) ∧ Valid (sp1 s) := by
    cases h : colon s with
    | none =>
      have hb : colB s = false := by unfold colB; rw [h]; rfl
      unfold spScheme sp1; rw [hb]; exact ⟨Valid.nil, hs⟩
    | some n =>
      obtain ⟨A, B, rfl, _, hA⟩ := colon_split h
      obtain ⟨e1, e2, e3⟩ := split_scheme B hA
      unfold spScheme
      rw [if_pos e1, e2, e3]
      exact ⟨hA.lower.valid, (Valid.part (by decide) hs).2⟩
  obtain ⟨v0, v1⟩ := hsc
  have hh : Valid (spHost (sp1 s)) ∧ Valid (sp2 (sp1 s)) := by
    unfold spHost sp2
    by_cases h : spHH (sp1 s) = true
    · rw [if_pos h, if_pos h]
      exact until_valid asc_slash (drop_valid (by decide) h v1)
    · rw [if_neg h, if_neg h]; exact ⟨Valid.nil, v1⟩
  obtain ⟨v2, v3⟩ := hh
  have hp : Valid (spPath (sp2 (sp1 s))) ∧ Valid (sp3 (sp2 (sp1 s))) := until_valid asc_quest v3
  obtain ⟨v4, v5⟩ := hp
  have hq : Valid (spQuery (sp3 (sp2 (sp1 s)))) ∧ Valid (sp4 (sp3 (sp2 (sp1 s)))) := by
    unfold spQuery sp4
    by_cases h : spHQ (sp3 (sp2 (sp1 s))) = true
    · rw [if_pos h, if_pos h]
      exact until_valid asc_hash (drop_valid (by decide) h v5)
    · rw [if_neg h, if_neg h]; exact ⟨Valid.nil, v5⟩
  obtain ⟨v6, v7⟩ := hq
  have hf : Valid (spFrag (sp4 (sp3 (sp2 (sp1 s))))) := by
    unfold spFrag
    cases h : sp4 (sp3 (sp2 (sp1 s))) with
    | nil => exact Valid.nil
    | cons b t =>
      have := sp4_head _ b t h
      subst this
      rw [h] at v7
      exact Valid.rest (Valid.ascii (c := 35) (by decide)) v7
  refine ⟨?_, v2, v4, v6, hf, v0⟩
  unfold mendLk splitL
  rw [mend_of_valid v0, mend_of_valid v2, mend_of_valid v4, mend_of_valid v6, mend_of_valid hf]

theorem untilA_len (s c : List UInt8) : (untilA s c).length ≤ s.length := by unfold untilA; rw [List.length_take]; omega
theorem split_len (s : List UInt8) : (splitL s).scheme.length ≤ s.length ∧ (splitL s).host.length ≤ s.length ∧ (splitL s).path.length ≤ s.length ∧ (splitL s).query.length ≤ s.length ∧ (splitL s).frag.length ≤ s.length := by
  have h1 := sp1_len s
  have h2 := sp2_len (sp1 s)
  have h3 := sp3_len (sp2 (sp1 s))
  have h4 := sp4_len (sp3 (sp2 (sp1 s)))
  refine ⟨?_, ?_, ?_, ?_, ?_⟩
  · show (spScheme s).length ≤ _
    have := colN_le s
    unfold spScheme
    split
    · unfold schemeS; rw [lower_length, List.length_take]; omega
    · simp
  · show (spHost (sp1 s)).length ≤ _
    unfold spHost
    split
    · have := untilA_len ((sp1 s).drop 2) spSlash
      rw [List.length_drop] at this; omega
    · simp
  · show (spPath (sp2 (sp1 s))).length ≤ _
    have : (spPath (sp2 (sp1 s))).length ≤ _ := untilA_len _ _
    omega
  · show (spQuery (sp3 (sp2 (sp1 s)))).length ≤ _
    unfold spQuery
    split
    · have := untilA_len ((sp3 (sp2 (sp1 s))).drop 1) spHash
      rw [List.length_drop] at this; omega
    · simp
  · show (spFrag (sp4 (sp3 (sp2 (sp1 s))))).length ≤ _
    unfold spFrag
    rw [List.length_drop]; omega
theorem joined_len {s : List UInt8} (hc : Clean s) : (joinL (splitL s)).length = s.length := by
  cases h : colB s with
  | true => exact (back_scheme hc h).1
  | false => rw [(back_plain hc h).1]
theorem joined_back {s : List UInt8} (hc : Clean s) : splitL (strip (joinL (splitL s))) = splitL s := by
  cases h : colB s with
  | true => exact (back_scheme hc h).2.2.2.2.1
  | false => exact (back_plain hc h).2
end Go.Proofs.YtabagfhnkdhjdaaGreatDoor
