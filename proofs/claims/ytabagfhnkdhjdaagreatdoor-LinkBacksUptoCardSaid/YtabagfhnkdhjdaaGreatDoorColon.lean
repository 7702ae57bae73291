/- The : of a scheme, and what stands ahead of the first of some bytes: plain facts. -/
import Derived.Test.YtabagfhnkdhjdaaGreatDoorClean
set_option linter.unusedVariables false
set_option maxRecDepth 100000
namespace Go.Proofs.YtabagfhnkdhjdaaGreatDoor
open Go.RowKit Go.Lib

theorem all_bytes (p : UInt8 → Bool) (h : (List.range 256).all (fun n => p (UInt8.ofNat n)) = true) (b : UInt8) : p b = true := by
  have := List.all_eq_true.1 h b.toNat (List.mem_range.2 b.toNat_lt)
  rwa [UInt8.ofNat_toNat] at this

theorem sch_low (b : UInt8) (h : schB b = true) : schB (lowB b) = true := by
  have := all_bytes (fun b => !schB b || schB (lowB b)) (by kernel_rfl) b
  simpa [h] using this
theorem let_low (b : UInt8) (h : letB b = true) : letB (lowB b) = true := by
  have := all_bytes (fun b => !letB b || letB (lowB b)) (by kernel_rfl) b
  simpa [h] using this
theorem low_low (b : UInt8) : lowB (lowB b) = lowB b := by
  have := all_bytes (fun b => lowB (lowB b) == lowB b) (by kernel_rfl) b
  exact eq_of_beq this
theorem let_sch (b : UInt8) (h : letB b = true) : schB b = true := by
  have := all_bytes (fun b => !letB b || schB b) (by kernel_rfl) b
  simpa [h] using this
theorem sch_range (b : UInt8) (h : schB b = true) : 32 < b.toNat ∧ b.toNat < 128 ∧ b.toNat ≠ 58 := by
  have := all_bytes (fun b => !schB b || (decide (32 < b.toNat) && decide (b.toNat < 128) && decide (b.toNat ≠ 58))) (by kernel_rfl) b
  simp [h] at this
  omega

theorem colonGo_split : ∀ (l : List UInt8) (i n : Nat), colonGo l i = some n → ∃ A B, l = A ++ 58 :: B ∧ i + A.length = n ∧ ∀ b ∈ A, schB b = true
  | [], i, n, h => by simp [colonGo] at h
  | c :: t, i, n, h => by
    unfold colonGo at h
    split at h
    · rename_i hc
      have : c = 58 := UInt8.toNat_inj.1 hc
      subst this
      exact ⟨[], t, rfl, by simpa using h, by simp⟩
    · split at h
      · rename_i hs
        obtain ⟨A, B, h1, h2, h3⟩ := colonGo_split t (i + 1) n h
        refine ⟨c :: A, B, by rw [h1]; rfl, by simp; omega, fun b hb => ?_⟩
        rcases List.mem_cons.1 hb with rfl | hb
        · exact hs
        · exact h3 b hb
      · cases h

theorem colonGo_make : ∀ (A B : List UInt8) (i : Nat), (∀ b ∈ A, schB b = true) → colonGo (A ++ 58 :: B) i = some (i + A.length)
  | [], B, i, _ => by simp [colonGo]
  | c :: t, B, i, h => by
    have hc := h c (by simp)
    have := (sch_range c hc).2.2
    rw [List.cons_append, colonGo, if_neg this, if_pos hc, colonGo_make t B (i + 1) (fun b hb => h b (by simp [hb]))]
    simp; omega

structure Sch (A : List UInt8) : Prop where
  all : ∀ b ∈ A, schB b = true
  first : ∃ a t, A = a :: t ∧ letB a = true

theorem colon_split {s : List UInt8} {n : Nat} (h : colon s = some n) : ∃ A B, s = A ++ 58 :: B ∧ A.length = n ∧ Sch A := by
  cases s with
  | nil => simp [colon] at h
  | cons c t =>
    have e : colon (c :: t) = if letB c then colonGo t 1 else none := rfl
    rw [e] at h
    split at h
    · rename_i hc
      obtain ⟨A, B, h1, h2, h3⟩ := colonGo_split t 1 n h
      refine ⟨c :: A, B, by rw [h1]; rfl, by simp; omega, ⟨fun b hb => ?_, c, A, rfl, hc⟩⟩
      rcases List.mem_cons.1 hb with rfl | hb
      · exact let_sch _ hc
      · exact h3 b hb
    · cases h

theorem colon_make {A : List UInt8} (B : List UInt8) (h : Sch A) : colon (A ++ 58 :: B) = some A.length := by
  obtain ⟨a, t, rfl, ha⟩ := h.first
  rw [List.cons_append, colon, if_pos ha, colonGo_make t B 1 (fun b hb => h.all b (by simp [hb]))]
  simp; omega

theorem Sch.lower {A : List UInt8} (h : Sch A) : Sch (lower A) := by
  obtain ⟨a, t, rfl, ha⟩ := h.first
  refine ⟨fun b hb => ?_, lowB a, Go.Proofs.YtabagfhnkdhjdaaGreatDoor.lower t, rfl, let_low a ha⟩
  unfold Go.Proofs.YtabagfhnkdhjdaaGreatDoor.lower at hb
  obtain ⟨c, hc, rfl⟩ := List.mem_map.1 hb
  exact sch_low c (h.all c hc)
theorem lower_lower (A : List UInt8) : lower (lower A) = lower A := by
  unfold lower
  rw [List.map_map]
  exact List.map_congr_left fun b _ => low_low b
theorem lower_length (A : List UInt8) : (lower A).length = A.length := by simp [lower]
theorem Sch.valid {A : List UInt8} (h : Sch A) : Valid A := Valid.asciis fun c hc => (sch_range c (h.all c hc)).2.1

/-- The parts of a text with a scheme. -/
theorem split_scheme {A : List UInt8} (B : List UInt8) (h : Sch A) : colB (A ++ 58 :: B) = true ∧ sp1 (A ++ 58 :: B) = B ∧ schemeS (A ++ 58 :: B) = lower A := by
  have hc := colon_make B h
  have hn : colN (A ++ 58 :: B) = A.length := by unfold colN; rw [hc]; rfl
  have hb : colB (A ++ 58 :: B) = true := by unfold colB; rw [hc]; rfl
  refine ⟨hb, ?_, ?_⟩
  · unfold sp1; rw [if_pos hb, hn]
    simp
  · unfold schemeS; rw [hn]; simp

theorem clean_scheme {A B : List UInt8} (h : Sch A) (hc : Clean (A ++ 58 :: B)) : Clean (lower A ++ 58 :: B) := by
  have hB := (Valid.part (by decide) hc.valid).2
  have hl := h.lower
  refine ⟨hl.valid.append (Valid.append (Valid.ascii (c := 58) (by decide)) hB), fun b hb => ?_, fun b hb => ?_, fun b hb => ?_⟩
  · rcases List.mem_append.1 hb with hb | hb
    · have := sch_range b (hl.all b hb); omega
    · exact hc.mid b (by simp [List.mem_cons.1 hb])
  · obtain ⟨a, t, e, ha⟩ := hl.first
    rw [e] at hb
    simp at hb; subst hb
    exact (sch_range _ (let_sch _ ha)).1
  · rw [getLast?_append_ne _ (by simp)] at hb
    exact hc.last b (by rw [getLast?_append_ne _ (by simp)]; exact hb)

theorem untilB_head {l c : List UInt8} {b : UInt8} {t : List UInt8} : untilB l c = b :: t → c.contains b = true := by
  unfold untilB
  induction l with
  | nil => intro h; simp [upTo] at h
  | cons x l ih =>
    intro h
    unfold upTo at h
    split at h
    · rename_i hx
      simp at h
      rw [← h.1]; exact hx
    · exact ih (by simpa using h)

theorem until_valid {l c : List UInt8} (hc : ∀ b ∈ c, b.toNat < 128) (h : Valid l) : Valid (untilA l c) ∧ Valid (untilB l c) := by
  have hj := until_join l c
  cases hB : untilB l c with
  | nil => rw [hB, List.append_nil] at hj; rw [hj]; exact ⟨h, Valid.nil⟩
  | cons b t =>
    have hb := hc b (by simpa using untilB_head hB)
    rw [hB] at hj
    rw [← hj] at h
    have := Valid.part hb h
    exact ⟨this.1, Valid.append (Valid.ascii hb) this.2⟩

theorem hasPrefix_eq {l p : List UInt8} (h : Lib.hasPrefix l p = true) : l = p ++ l.drop p.length := by
  obtain ⟨t, rfl⟩ := List.isPrefixOf_iff_prefix.1 h
  simp

theorem hp1 (b : UInt8) (l : List UInt8) (c : UInt8) : Lib.hasPrefix (b :: l) [c] = (c == b) := by
  unfold Lib.hasPrefix
  simp [List.isPrefixOf]
theorem hp_nil (c : UInt8) (p : List UInt8) : Lib.hasPrefix [] (c :: p) = false := rfl

theorem drop_valid {s p : List UInt8} (hp : ∀ b ∈ p, b.toNat < 128) (h : Lib.hasPrefix s p = true) (hs : Valid s) : Valid (s.drop p.length) := by
  rw [hasPrefix_eq h] at hs
  exact Valid.rest (Valid.asciis hp) hs

end Go.Proofs.YtabagfhnkdhjdaaGreatDoor
