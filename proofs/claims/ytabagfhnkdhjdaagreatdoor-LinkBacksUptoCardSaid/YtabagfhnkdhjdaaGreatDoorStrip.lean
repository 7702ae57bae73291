/- link.Strip: as browsers strip a link. -/
import Derived.Test.YtabagfhnkdhjdaaGreatDoorMend
set_option linter.unusedVariables false
set_option maxRecDepth 100000
namespace Go.Proofs.YtabagfhnkdhjdaaGreatDoor
open Go.RowKit Go.Lib

def trimLN : List Nat → List Nat
  | [] => []
  | r :: t => if r ≤ 32 then trimLN t else r :: t
def trimRN (l : List Nat) : List Nat := (trimLN l.reverse).reverse
def keepN (r : Nat) : Bool := !(r == 9 || r == 10 || r == 13)
def stripN (l : List Nat) : List Nat := (trimRN (trimLN l)).filter keepN
def strip (l : List UInt8) : List UInt8 := encAll (stripN (runes l))

theorem trimRN_nil : trimRN [] = [] := rfl
theorem trimRN_low (l : List Nat) (r : Nat) (h : r ≤ 32) : trimRN (l ++ [r]) = trimRN l := by
  unfold trimRN
  rw [List.reverse_append]
  simp [trimLN, h]
theorem trimRN_high (l : List Nat) (r : Nat) (h : ¬ r ≤ 32) : trimRN (l ++ [r]) = l ++ [r] := by
  unfold trimRN
  rw [List.reverse_append]
  simp [trimLN, h]

theorem trimLN_sub (l : List Nat) : ∀ r ∈ trimLN l, r ∈ l := by
  induction l with
  | nil => intro r h; exact h
  | cons a t ih =>
    intro r h
    unfold trimLN at h
    split at h
    · exact List.mem_cons_of_mem _ (ih r h)
    · exact h
theorem trimRN_sub (l : List Nat) : ∀ r ∈ trimRN l, r ∈ l := by
  intro r h
  unfold trimRN at h
  have := trimLN_sub l.reverse r (by simpa using h)
  simpa using this
theorem stripN_sub (l : List Nat) : ∀ r ∈ stripN l, r ∈ l := by
  intro r h
  unfold stripN at h
  exact trimLN_sub l r (trimRN_sub _ r (List.mem_filter.1 h).1)
theorem strip_valid (l : List UInt8) : Valid (strip l) := ⟨stripN (runes l), fun r h => runes_ch l r (stripN_sub _ r h), rfl⟩

/-- Go's own runes of a valid text. -/
theorem runesFrom_enc (s : ByteArray) : ∀ (rs : List Nat) (bound k : Nat) (acc : Array Value), (∀ r ∈ rs, isCh r) → s.data.toList.drop k = encAll rs → rs.length ≤ bound →
    Conv.runesFrom s bound k acc = acc ++ (runeCells rs).toArray := by
  intro rs
  induction rs with
  | nil =>
    intro bound k acc _ hd _
    have hk : ¬ k < s.size := by
      intro h
      have := congrArg List.length hd
      rw [List.length_drop, ← size_eq] at this
      simp [encAll] at this
      omega
    have : (runeCells []).toArray = #[] := rfl
    rw [this, Array.append_empty]
    cases bound with
    | zero => rfl
    | succ b => rw [Conv.runesFrom, if_neg hk]
  | cons r rs ih =>
    intro bound k acc h hd hb
    have hl := enc_len r
    have hk : k < s.size := by
      apply Decidable.byContradiction
      intro hn
      rw [drop_end s k (by omega)] at hd
      have := congrArg List.length hd
      simp [encAll] at this
      omega
    cases bound with
    | zero => simp at hb
    | succ b =>
      have hd2 : s.data.toList.drop k = enc r ++ encAll rs := by rw [hd]; simp [encAll]
      have hdec := decode_dec s k
      rw [hd2, dec_enc r (h r (by simp))] at hdec
      rw [Conv.runesFrom, if_pos hk, hdec]
      simp only
      rw [ih b (k + (enc r).length) _ (fun x hx => h x (by simp [hx])) (by rw [← List.drop_drop, hd2, List.drop_left]) (by simp at hb; omega)]
      simp [runeCells]

theorem runes_len_le : ∀ (n : Nat) (l : List UInt8), l.length ≤ n → (runes l).length ≤ l.length := by
  intro n
  induction n with
  | zero => intro l h; cases l with
    | nil => simp [runes_nil]
    | cons => simp at h
  | succ n ih =>
    intro l h
    cases l with
    | nil => simp [runes_nil]
    | cons c t =>
      have hs := piece_size c t
      have := ih ((c :: t).drop (piece (c :: t)).2.1) (by simp only [List.length_drop, List.length_cons] at h ⊢; omega)
      rw [runes_cons, List.length_cons]
      simp only [List.length_drop, List.length_cons] at this ⊢
      omega
theorem encAll_len (rs : List Nat) : rs.length ≤ (encAll rs).length ∧ (encAll rs).length ≤ 4 * rs.length := by
  induction rs with
  | nil => simp [encAll]
  | cons r rs ih =>
    have := enc_len r
    have e : encAll (r :: rs) = enc r ++ encAll rs := by simp [encAll]
    rw [e, List.length_append, List.length_cons]
    omega
theorem mend_len (l : List UInt8) : (mend l).length ≤ 4 * l.length := by
  have h1 := runes_len_le l.length l (Nat.le_refl _)
  have h2 := encAll_len (runes l)
  unfold mend
  omega

theorem runeCells_at {rs : List Nat} {j r : Nat} (h : rs[j]? = some r) : (runeCells rs)[j]? = some (.int .i32 (r : Nat)) := by simp [runeCells, h]
theorem runeCells_len (rs : List Nat) : (runeCells rs).length = rs.length := by simp [runeCells]

/-- What '[]rune(s)' lays, of a mended text. -/
theorem runes_conv {P : Program} (w : World) (src dst e : TypeId) (v : List UInt8) (hv : v.length ≤ 35184372088831) (hs : P.underlying src = some .string) (hd : P.underlying dst = some (.slice e)) (he : P.underlying e = some (.int .i32)) :
    ∃ cap C, (runes v).length ≤ cap ∧ RowAt (w.alloc (.cells C e)) w.heap.size (runeCells (runes v)) ∧
      (convert src dst (.string ⟨(mend v).toArray⟩)).run P w = .ok (.slice (some ⟨w.heap.size, 0, none⟩) (runes v).length cap) (w.drew.alloc (.cells C e)) := by
  have hl := runes_len_le v.length v (Nat.le_refl _)
  have hml := encAll_len (runes v)
  have hf : Conv.runesFrom ⟨(mend v).toArray⟩ (⟨(mend v).toArray⟩ : ByteArray).size 0 #[] = (runeCells (runes v)).toArray := by
    rw [runesFrom_enc ⟨(mend v).toArray⟩ (runes v) _ 0 #[] (runes_ch v) rfl (by
      rw [size_eq]; show _ ≤ (encAll (runes v)).length; omega)]
    simp
  have hsz : (Conv.runesFrom ⟨(mend v).toArray⟩ (⟨(mend v).toArray⟩ : ByteArray).size 0 #[]).size = (runes v).length := by rw [hf]; simp [runeCells]
  have h := run_runes_of_string (P := P) w src dst e ⟨(mend v).toArray⟩ hs hd he (by rw [hsz]; omega)
  rw [hsz, hf] at h
  refine ⟨_, _, grownCap_ge w (runes v).length 0 e, ?_, h⟩
  refine RowAt.new w _ e _ ?_
  simp [runeCells]
end Go.Proofs.YtabagfhnkdhjdaaGreatDoor
