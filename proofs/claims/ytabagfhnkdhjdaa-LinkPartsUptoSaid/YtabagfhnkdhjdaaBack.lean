/- LinkBack: the plain law: the parts joined are the link; parted again they are the parts. -/
import Derived.Test.YtabagfhnkdhjdaaClean
set_option linter.unusedVariables false
namespace Go.Proofs.Ytabagfhnkdhjdaa
open Go.RowKit Go.Lib

theorem all_bytes (p : UInt8 → Bool) (h : (List.range 256).all (fun n => p (UInt8.ofNat n)) = true) (b : UInt8) : p b = true := by
  have := List.all_eq_true.1 h b.toNat (List.mem_range.2 b.toNat_lt)
  rwa [UInt8.ofNat_toNat] at this

theorem sch_low (b : UInt8) (h : schB b = true) : schB (lowB b) = true := by
  have := all_bytes (fun b => !schB b || schB (lowB b)) (by kernel_rfl) b
  simpa [h] using this
theorem let_low (b : UInt8) (h : letB b = true) : letB (lowB b) = true := by
  have := all_bytes (fun b => !letB b || letB (lowB b)) (by kernel_rfl) b
  simpa [h] using this
theorem low_low (b : UInt8) : lowB (lowB b) = lowB b := by
  have := all_bytes (fun b => lowB (lowB b) == lowB b) (by kernel_rfl) b
  exact eq_of_beq this
theorem let_sch (b : UInt8) (h : letB b = true) : schB b = true := by
  have := all_bytes (fun b => !letB b || schB b) (by kernel_rfl) b
  simpa [h] using this
theorem sch_range (b : UInt8) (h : schB b = true) : 32 < b.toNat ∧ b.toNat < 128 ∧ b.toNat ≠ 58 := by
  have := all_bytes (fun b => !schB b || (decide (32 < b.toNat) && decide (b.toNat < 128) && decide (b.toNat ≠ 58))) (by kernel_rfl) b
  simp [h] at this
  omega

theorem colonGo_split : ∀ (l : List UInt8) (i n : Nat), colonGo l i = some n → ∃ A B, l = A ++ 58 :: B ∧ i + A.length = n ∧ ∀ b ∈ A, schB b = true
  | [], i, n, h => by simp [colonGo] at h
  | c :: t, i, n, h => by
    unfold colonGo at h
    split at h
    · rename_i hc
      have : c = 58 := UInt8.toNat_inj.1 hc
      subst this
      exact ⟨[], t, rfl, by simpa using h, by simp⟩
    · split at h
      · rename_i hs
        obtain ⟨A, B, h1, h2, h3⟩ := colonGo_split t (i + 1) n h
        refine ⟨c :: A, B, by rw [h1]; rfl, by simp; omega, fun b hb => ?_⟩
        rcases List.mem_cons.1 hb with rfl | hb
        · exact hs
        · exact h3 b hb
      · cases h

theorem colonGo_make : ∀ (A B : List UInt8) (i : Nat), (∀ b ∈ A, schB b = true) → colonGo (A ++ 58 :: B) i = some (i + A.length)
  | [], B, i, _ => by simp [colonGo]
  | c :: t, B, i, h => by
    have hc := h c (by simp)
    have := (sch_range c hc).2.2
    rw [List.cons_append, colonGo, if_neg this, if_pos hc, colonGo_make t B (i + 1) (fun b hb => h b (by simp [hb]))]
    simp; omega

structure Sch (A : List UInt8) : Prop where
  all : ∀ b ∈ A, schB b = true
  first : ∃ a t, A = a :: t ∧ letB a = true

theorem colon_split {s : List UInt8} {n : Nat} (h : colon s = some n) : ∃ A B, s = A ++ 58 :: B ∧ A.length = n ∧ Sch A := by
  cases s with
  | nil => simp [colon] at h
  | cons c t =>
    have e : colon (c :: t) = if letB c then colonGo t 1 else none := rfl
    rw [e] at h
    split at h
    · rename_i hc
      obtain ⟨A, B, h1, h2, h3⟩ := colonGo_split t 1 n h
      refine ⟨c :: A, B, by rw [h1]; rfl, by simp; omega, ⟨fun b hb => ?_, c, A, rfl, hc⟩⟩
      rcases List.mem_cons.1 hb with rfl | hb
      · exact let_sch _ hc
      · exact h3 b hb
    · cases h

theorem colon_make {A : List UInt8} (B : List UInt8) (h : Sch A) : colon (A ++ 58 :: B) = some A.length := by
  obtain ⟨a, t, rfl, ha⟩ := h.first
  rw [List.cons_append, colon, if_pos ha, colonGo_make t B 1 (fun b hb => h.all b (by simp [hb]))]
  simp; omega

theorem Sch.lower {A : List UInt8} (h : Sch A) : Sch (lower A) := by
  obtain ⟨a, t, rfl, ha⟩ := h.first
  refine ⟨fun b hb => ?_, lowB a, Go.Proofs.Ytabagfhnkdhjdaa.lower t, rfl, let_low a ha⟩
  unfold Go.Proofs.Ytabagfhnkdhjdaa.lower at hb
  obtain ⟨c, hc, rfl⟩ := List.mem_map.1 hb
  exact sch_low c (h.all c hc)
theorem lower_lower (A : List UInt8) : lower (lower A) = lower A := by
  unfold lower
  rw [List.map_map]
  exact List.map_congr_left fun b _ => low_low b
theorem lower_length (A : List UInt8) : (lower A).length = A.length := by simp [lower]
theorem Sch.valid {A : List UInt8} (h : Sch A) : Valid A := Valid.asciis fun c hc => (sch_range c (h.all c hc)).2.1

/-- The parts of a text with a scheme. -/
theorem split_scheme {A : List UInt8} (B : List UInt8) (h : Sch A) : colB (A ++ 58 :: B) = true ∧ sp1 (A ++ 58 :: B) = B ∧ schemeS (A ++ 58 :: B) = lower A := by
  have hc := colon_make B h
  have hn : colN (A ++ 58 :: B) = A.length := by unfold colN; rw [hc]; rfl
  have hb : colB (A ++ 58 :: B) = true := by unfold colB; rw [hc]; rfl
  refine ⟨hb, ?_, ?_⟩
  · unfold sp1; rw [if_pos hb, hn]
    simp
  · unfold schemeS; rw [hn]; simp

theorem clean_scheme {A B : List UInt8} (h : Sch A) (hc : Clean (A ++ 58 :: B)) : Clean (lower A ++ 58 :: B) := by
  have hB := (Valid.part (by decide) hc.valid).2
  have hl := h.lower
  refine ⟨hl.valid.append (Valid.append (Valid.ascii (c := 58) (by decide)) hB), fun b hb => ?_, fun b hb => ?_, fun b hb => ?_⟩
  · rcases List.mem_append.1 hb with hb | hb
    · have := sch_range b (hl.all b hb); omega
    · exact hc.mid b (by simp [List.mem_cons.1 hb])
  · obtain ⟨a, t, e, ha⟩ := hl.first
    rw [e] at hb
    simp at hb; subst hb
    exact (sch_range _ (let_sch _ ha)).1
  · rw [getLast?_append_ne _ (by simp)] at hb
    exact hc.last b (by rw [getLast?_append_ne _ (by simp)]; exact hb)

theorem untilB_head {l c : List UInt8} {b : UInt8} {t : List UInt8} : untilB l c = b :: t → c.contains b = true := by
  unfold untilB
  induction l with
  | nil => intro h; simp [upTo] at h
  | cons x l ih =>
    intro h
    unfold upTo at h
    split at h
    · rename_i hx
      simp at h
      rw [← h.1]; exact hx
    · exact ih (by simpa using h)

theorem until_valid {l c : List UInt8} (hc : ∀ b ∈ c, b.toNat < 128) (h : Valid l) : Valid (untilA l c) ∧ Valid (untilB l c) := by
  have hj := until_join l c
  cases hB : untilB l c with
  | nil => rw [hB, List.append_nil] at hj; rw [hj]; exact ⟨h, Valid.nil⟩
  | cons b t =>
    have hb := hc b (by simpa using untilB_head hB)
    rw [hB] at hj
    rw [← hj] at h
    have := Valid.part hb h
    exact ⟨this.1, Valid.append (Valid.ascii hb) this.2⟩

theorem hasPrefix_eq {l p : List UInt8} (h : Lib.hasPrefix l p = true) : l = p ++ l.drop p.length := by
  obtain ⟨t, rfl⟩ := List.isPrefixOf_iff_prefix.1 h
  simp

theorem hp1 (b : UInt8) (l : List UInt8) (c : UInt8) : Lib.hasPrefix (b :: l) [c] = (c == b) := by
  unfold Lib.hasPrefix
  simp [List.isPrefixOf]
theorem hp_nil (c : UInt8) (p : List UInt8) : Lib.hasPrefix [] (c :: p) = false := rfl

theorem host_join (s : List UInt8) : (if spHH s then 47 :: 47 :: spHost s else []) ++ sp2 s = s := by
  unfold spHost sp2
  by_cases h : spHH s = true
  · rw [if_pos h, if_pos h, if_pos h, List.cons_append, List.cons_append, until_join]
    exact (hasPrefix_eq h).symm
  · rw [if_neg h, if_neg h]; rfl
theorem query_join (s : List UInt8) : (if spHQ s then 63 :: spQuery s else []) ++ sp4 s = s := by
  unfold spQuery sp4
  by_cases h : spHQ s = true
  · rw [if_pos h, if_pos h, if_pos h, List.cons_append, until_join]
    exact (hasPrefix_eq h).symm
  · rw [if_neg h, if_neg h]; rfl
/-- Behind the query: nothing, or a '#'. -/
theorem sp4_head (x : List UInt8) (b : UInt8) (t : List UInt8) (h : sp4 (sp3 x) = b :: t) : b = 35 := by
  unfold sp4 at h
  split at h
  · have := untilB_head h
    simpa [spHash] using this
  · rename_i hq
    have h3 : untilB x spQuest = b :: t := h
    have := untilB_head h3
    unfold spHQ sp3 at hq
    rw [h3, hp1] at hq
    simp [spQuest] at this hq
    rcases this with h | h
    · exact absurd h.symm hq
    · exact h
theorem frag_join (x : List UInt8) : (if spHF (sp4 (sp3 x)) then 35 :: spFrag (sp4 (sp3 x)) else []) = sp4 (sp3 x) := by
  cases h : sp4 (sp3 x) with
  | nil => rfl
  | cons b t =>
    have := sp4_head x b t h
    subst this
    rfl

theorem rest_join (s : List UInt8) : (if spHH s then 47 :: 47 :: spHost s else []) ++ (spPath (sp2 s) ++ ((if spHQ (sp3 (sp2 s)) then 63 :: spQuery (sp3 (sp2 s)) else []) ++ (if spHF (sp4 (sp3 (sp2 s))) then 35 :: spFrag (sp4 (sp3 (sp2 s))) else []))) = s := by
  rw [frag_join, query_join]
  have : spPath (sp2 s) ++ sp3 (sp2 s) = sp2 s := until_join _ _
  rw [this, host_join]

theorem join_split (s : List UInt8) : joinL (splitL s) = (if colB s then schemeS s ++ [58] else []) ++ sp1 s := by
  have h := rest_join (sp1 s)
  have e : joinL (splitL s) = (if colB s then spScheme s ++ [58] else []) ++ (if spHH (sp1 s) then 47 :: 47 :: spHost (sp1 s) else []) ++ spPath (sp2 (sp1 s)) ++ (if spHQ (sp3 (sp2 (sp1 s))) then 63 :: spQuery (sp3 (sp2 (sp1 s))) else []) ++ (if spHF (sp4 (sp3 (sp2 (sp1 s)))) then 35 :: spFrag (sp4 (sp3 (sp2 (sp1 s)))) else []) := rfl
  rw [e, List.append_assoc, List.append_assoc, List.append_assoc, h]
  by_cases hb : colB s = true
  · unfold spScheme; rw [if_pos hb, if_pos hb, if_pos hb]
  · rw [if_neg hb, if_neg hb]

/-- What the law says, of a stripped text. -/
theorem back_scheme {s : List UInt8} (hc : Clean s) (h : colB s = true) :
    (joinL (splitL s)).length = s.length ∧ lower (s.take (spScheme s).length) = spScheme s ∧ (joinL (splitL s)).take (spScheme s).length = spScheme s ∧
    (joinL (splitL s)).drop (spScheme s).length = s.drop (spScheme s).length ∧ splitL (strip (joinL (splitL s))) = splitL s ∧ (spScheme s).length ≤ s.length ∧ spScheme s = schemeS s := by
  have h' := h
  unfold colB at h'
  obtain ⟨n, hn⟩ := Option.isSome_iff_exists.1 h'
  obtain ⟨A, B, rfl, _, hA⟩ := colon_split hn
  obtain ⟨e1, e2, e3⟩ := split_scheme B hA
  obtain ⟨f1, f2, f3⟩ := split_scheme B hA.lower
  have hj : joinL (splitL (A ++ 58 :: B)) = lower A ++ 58 :: B := by rw [join_split, if_pos e1, e2, e3]; simp
  have hsp : spScheme (A ++ 58 :: B) = lower A := by unfold spScheme; rw [if_pos e1, e3]
  have hcl := clean_strip (clean_scheme hA hc)
  rw [hj, hsp, hcl, lower_length]
  refine ⟨by simp [lower_length], by simp, by rw [← lower_length A]; simp, ?_, ?_, by simp, by rw [e3]⟩
  · have : (lower A ++ 58 :: B).drop A.length = 58 :: B := by rw [← lower_length A]; simp
    rw [this]; simp
  · unfold splitL
    have hsp2 : spScheme (lower A ++ 58 :: B) = lower A := by unfold spScheme; rw [if_pos f1, f3, lower_lower]
    rw [hsp, hsp2, e1, f1, e2, f2]

theorem back_plain {s : List UInt8} (hc : Clean s) (h : colB s = false) : joinL (splitL s) = s ∧ splitL (strip (joinL (splitL s))) = splitL s := by
  have hj : joinL (splitL s) = s := by
    rw [join_split, h]
    unfold sp1
    rw [h]; rfl
  rw [hj, clean_strip hc]
  exact ⟨rfl, rfl⟩

def mendLk (l : Lk) : Lk := ⟨mend l.scheme, mend l.host, mend l.path, mend l.query, mend l.frag, l.hs, l.hh, l.hq, l.hf⟩

theorem asc_slash : ∀ b ∈ spSlash, b.toNat < 128 := by decide
theorem asc_quest : ∀ b ∈ spQuest, b.toNat < 128 := by decide
theorem asc_hash : ∀ b ∈ spHash, b.toNat < 128 := by decide

theorem drop_valid {s p : List UInt8} (hp : ∀ b ∈ p, b.toNat < 128) (h : Lib.hasPrefix s p = true) (hs : Valid s) : Valid (s.drop p.length) := by
  rw [hasPrefix_eq h] at hs
  exact Valid.rest (Valid.asciis hp) hs

/-- The parts of a valid text are valid. -/
theorem split_valid {s : List UInt8} (hs : Valid s) : mendLk (splitL s) = splitL s ∧ Valid (spHost (sp1 s)) ∧ Valid (spPath (sp2 (sp1 s))) ∧ Valid (spQuery (sp3 (sp2 (sp1 s)))) ∧ Valid (spFrag (sp4 (sp3 (sp2 (sp1 s))))) ∧ Valid (spScheme s) := by
  have hsc : Valid (spScheme s) ∧ Valid (sp1 s) := by
    cases h : colon s with
    | none =>
      have hb : colB s = false := by unfold colB; rw [h]; rfl
      unfold spScheme sp1; rw [hb]; exact ⟨Valid.nil, hs⟩
    | some n =>
      obtain ⟨A, B, rfl, _, hA⟩ := colon_split h
      obtain ⟨e1, e2, e3⟩ := split_scheme B hA
      unfold spScheme
      rw [if_pos e1, e2, e3]
      exact ⟨hA.lower.valid, (Valid.part (by decide) hs).2⟩
  obtain ⟨v0, v1⟩ := hsc
  have hh : Valid (spHost (sp1 s)) ∧ Valid (sp2 (sp1 s)) := by
    unfold spHost sp2
    by_cases h : spHH (sp1 s) = true
    · rw [if_pos h, if_pos h]
      exact until_valid asc_slash (drop_valid (by decide) h v1)
    · rw [if_neg h, if_neg h]; exact ⟨Valid.nil, v1⟩
  obtain ⟨v2, v3⟩ := hh
  have hp : Valid (spPath (sp2 (sp1 s))) ∧ Valid (sp3 (sp2 (sp1 s))) := until_valid asc_quest v3
  obtain ⟨v4, v5⟩ := hp
  have hq : Valid (spQuery (sp3 (sp2 (sp1 s)))) ∧ Valid (sp4 (sp3 (sp2 (sp1 s)))) := by
    unfold spQuery sp4
    by_cases h : spHQ (sp3 (sp2 (sp1 s))) = true
    · rw [if_pos h, if_pos h]
      exact until_valid asc_hash (drop_valid (by decide) h v5)
    · rw [if_neg h, if_neg h]; exact ⟨Valid.nil, v5⟩
  obtain ⟨v6, v7⟩ := hq
  have hf : Valid (spFrag (sp4 (sp3 (sp2 (sp1 s))))) := by
    unfold spFrag
    cases h : sp4 (sp3 (sp2 (sp1 s))) with
    | nil => exact Valid.nil
    | cons b t =>
      have := sp4_head _ b t h
      subst this
      rw [h] at v7
      exact Valid.rest (Valid.ascii (c := 35) (by decide)) v7
  refine ⟨?_, v2, v4, v6, hf, v0⟩
  unfold mendLk splitL
  rw [mend_of_valid v0, mend_of_valid v2, mend_of_valid v4, mend_of_valid v6, mend_of_valid hf]

theorem untilA_len (s c : List UInt8) : (untilA s c).length ≤ s.length := by unfold untilA; rw [List.length_take]; omega
theorem split_len (s : List UInt8) : (splitL s).scheme.length ≤ s.length ∧ (splitL s).host.length ≤ s.length ∧ (splitL s).path.length ≤ s.length ∧ (splitL s).query.length ≤ s.length ∧ (splitL s).frag.length ≤ s.length := by
  have h1 := sp1_len s
  have h2 := sp2_len (sp1 s)
  have h3 := sp3_len (sp2 (sp1 s))
  have h4 := sp4_len (sp3 (sp2 (sp1 s)))
  refine ⟨?_, ?_, ?_, ?_, ?_⟩
  · show (spScheme s).length ≤ _
    have := colN_le s
    unfold spScheme
    split
    · unfold schemeS; rw [lower_length, List.length_take]; omega
    · simp
  · show (spHost (sp1 s)).length ≤ _
    unfold spHost
    split
    · have := untilA_len ((sp1 s).drop 2) spSlash
      rw [List.length_drop] at this; omega
    · simp
  · show (spPath (sp2 (sp1 s))).length ≤ _
    have : (spPath (sp2 (sp1 s))).length ≤ _ := untilA_len _ _
    omega
  · show (spQuery (sp3 (sp2 (sp1 s)))).length ≤ _
    unfold spQuery
    split
    · have := untilA_len ((sp3 (sp2 (sp1 s))).drop 1) spHash
      rw [List.length_drop] at this; omega
    · simp
  · show (spFrag (sp4 (sp3 (sp2 (sp1 s))))).length ≤ _
    unfold spFrag
    rw [List.length_drop]; omega
theorem joined_len {s : List UInt8} (hc : Clean s) : (joinL (splitL s)).length = s.length := by
  cases h : colB s with
  | true => exact (back_scheme hc h).1
  | false => rw [(back_plain hc h).1]
theorem joined_back {s : List UInt8} (hc : Clean s) : splitL (strip (joinL (splitL s))) = splitL s := by
  cases h : colB s with
  | true => exact (back_scheme hc h).2.2.2.2.1
  | false => exact (back_plain hc h).2
end Go.Proofs.Ytabagfhnkdhjdaa
