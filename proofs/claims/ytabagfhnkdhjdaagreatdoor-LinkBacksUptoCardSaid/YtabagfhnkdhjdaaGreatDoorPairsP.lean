/- A query of pairs says them: the plain law. -/
import Derived.Test.YtabagfhnkdhjdaaGreatDoorPairs
import Derived.Test.YtabagfhnkdhjdaaGreatDoorColon
set_option linter.unusedVariables false
set_option maxRecDepth 100000
namespace Go.Proofs.YtabagfhnkdhjdaaGreatDoor
open Go.RowKit Go.Lib

def safe1 (b : UInt8) : Bool := decide (b.toNat < 128) && b != 38 && b != 61
theorem formE_safe (c : UInt8) : (formE c).all safe1 = true := all_bytes (fun c => (formE c).all safe1) (by kernel_rfl) c
theorem formF_safe (l : List UInt8) : ∀ b ∈ formF l, b.toNat < 128 ∧ b ≠ 38 ∧ b ≠ 61 := fun b hb => by
  unfold formF at hb
  obtain ⟨c, _, hc⟩ := List.mem_flatMap.1 hb
  have := List.all_eq_true.1 (formE_safe c) b hc
  simpa [safe1, and_assoc] using this
def turnE (c : UInt8) : Bool :=
  match (formE c).map plusB with
  | [a] => a == c && !(c.toNat == 37)
  | [a, x, y] => a.toNat == 37 && hexB x && hexB y && decV x y == c
  | _ => false
theorem turnE_all (c : UInt8) : turnE c = true := all_bytes turnE (by kernel_rfl) c
theorem decF_form : ∀ (M : List UInt8), decF ((formF M).map plusB) = M
  | [] => rfl
  | c :: t => by
    have h := turnE_all c
    have ih := decF_form t
    rw [formF_cons, List.map_append]
    unfold turnE at h
    generalize (formE c).map plusB = m at h
    match m, h with
    | [], h => simp at h
    | [a], h =>
      simp only [Bool.and_eq_true, beq_iff_eq, Bool.not_eq_true', beq_eq_false_iff_ne] at h
      obtain ⟨rfl, h⟩ := h
      show decF (a :: (formF t).map plusB) = a :: t
      rw [decF_one _ _ (fun hh => h hh.1), ih]
    | [a, b], h => simp at h
    | [a, x, y], h =>
      simp only [Bool.and_eq_true, beq_iff_eq] at h
      obtain ⟨⟨⟨h1, h2⟩, h3⟩, h4⟩ := h
      show decF (a :: x :: y :: (formF t).map plusB) = c :: t
      rw [decF_esc _ _ _ _ h1 (by simp [coded2, h2, h3]), ih, h4]
    | _ :: _ :: _ :: _ :: _, h => simp at h
theorem plusB_low {b : UInt8} (h : b.toNat < 128) : (plusB b).toNat < 128 := by
  unfold plusB
  split
  · decide
  · exact h
theorem say_form (l : List UInt8) : sayL (formL l) = mend l := by
  unfold sayL decL formL
  rw [mend_of_valid (l := (formF (mend l)).map plusB) (Valid.asciis (fun c hc => by
    obtain ⟨b, hb, rfl⟩ := List.mem_map.1 hc
    exact plusB_low (formF_safe _ b hb).1)), decF_form, mend_mend]

/-! Joined and split. -/
theorem index_at (z : UInt8) (r : List UInt8) : ∀ (x : List UInt8), (∀ b ∈ x, b ≠ z) → Lib.index (x ++ z :: r) [z] = (x.length : Nat)
  | [], _ => by
    show Lib.index (z :: r) [z] = _
    unfold Lib.index
    rw [if_pos (by simp [List.isPrefixOf])]; rfl
  | c :: l, h => by
    have hc : c ≠ z := h c (by simp)
    have hp : List.isPrefixOf [z] (c :: (l ++ z :: r)) = false := by simp [List.isPrefixOf, Ne.symm hc]
    have ih := index_at z r l (fun b hb => h b (by simp [hb]))
    show Lib.index (c :: (l ++ z :: r)) [z] = _
    conv => lhs; unfold Lib.index
    rw [if_neg (by rw [hp]; exact Bool.false_ne_true), ih, if_neg (by rw [beq_iff_eq]; omega)]
    simp
theorem index_none (z : UInt8) (x : List UInt8) (h : ∀ b ∈ x, b ≠ z) : Lib.index x [z] = -1 := by
  rcases index_one z x with ⟨h1, _⟩ | ⟨a, b, rfl, _, _⟩
  · exact h1
  · exact absurd rfl (h z (by simp))
theorem join_two (x y : List UInt8) (t : List (List UInt8)) (sep : List UInt8) : Lib.join (x :: y :: t) sep = x ++ (sep ++ Lib.join (y :: t) sep) := by
  rw [Lib.join_cons, Lib.join_cons]
  simp [Lib.joinTail]
theorem split_join (z : UInt8) : ∀ (xs : List (List UInt8)) (k : Nat), xs ≠ [] → (∀ x ∈ xs, ∀ b ∈ x, b ≠ z) → xs.length ≤ k + 1 → Lib.splitK [z] 0 k (Lib.join xs [z]) = xs
  | [], _, h, _, _ => absurd rfl h
  | [x], k, _, h, _ => by
    rw [Lib.join_one]
    cases k with
    | zero => rfl
    | succ k =>
      unfold Lib.splitK
      rw [if_pos (by rw [index_none z x (h x (by simp))]; rfl)]
  | x :: y :: t, 0, _, _, hl => by simp at hl
  | x :: y :: t, k + 1, _, h, hl => by
    have hx := index_at z (Lib.join (y :: t) [z]) x (h x (by simp))
    have ih := split_join z (y :: t) k (by simp) (fun x hx => h x (by simp [hx])) (by simpa using hl)
    rw [join_two]
    show Lib.splitK [z] 0 (k + 1) (x ++ z :: Lib.join (y :: t) [z]) = _
    unfold Lib.splitK
    rw [if_neg (by rw [hx, beq_iff_eq]; omega), hx]
    have e1 : (x ++ z :: Lib.join (y :: t) [z]).take (((x.length : Nat) : Int).toNat + 0) = x := by simp
    have e2 : (x ++ z :: Lib.join (y :: t) [z]).drop (((x.length : Nat) : Int).toNat + [z].length) = Lib.join (y :: t) [z] := by simp
    rw [e1, e2, ih]
theorem join_count (z : UInt8) : ∀ (xs : List (List UInt8)), xs.length ≤ (Lib.join xs [z]).count z + 1
  | [] => by simp
  | [x] => by simp
  | x :: y :: t => by
    have ih := join_count z (y :: t)
    rw [join_two, List.count_append, List.count_append, List.count_singleton_self]
    simp at ih ⊢; omega
theorem mem_join (sep : List UInt8) (b : UInt8) : ∀ (xs : List (List UInt8)), b ∈ Lib.join xs sep → (∃ x ∈ xs, b ∈ x) ∨ b ∈ sep
  | [], h => by simp [Lib.join_nil] at h
  | [x], h => by rw [Lib.join_one] at h; exact .inl ⟨x, by simp, h⟩
  | x :: y :: t, h => by
    rw [join_two, List.mem_append, List.mem_append] at h
    rcases h with h | h | h
    · exact .inl ⟨x, by simp, h⟩
    · exact .inr h
    · rcases mem_join sep b (y :: t) h with ⟨u, hu, hb⟩ | h
      · exact .inl ⟨u, List.mem_cons_of_mem _ hu, hb⟩
      · exact .inr h

/-! The pieces of a query. -/
theorem qryB_data (p : ByteArray × ByteArray) : (qryB p).data.toList = formL p.1.data.toList ++ 61 :: formL p.2.data.toList := by
  have h : ∀ a b : ByteArray, (a ++ b).data.toList = a.data.toList ++ b.data.toList := fun a b => by rw [ByteArray.data_append, Array.toList_append]
  unfold qryB formB
  rw [h, h]
  simp
theorem qryS_data (q : List (ByteArray × ByteArray)) : (qryS q).data.toList = Lib.join ((q.map qryB).map (·.data.toList)) [38] := rfl
theorem qryB_safe (p : ByteArray × ByteArray) : ∀ b ∈ (qryB p).data.toList, b.toNat < 128 ∧ b ≠ 38 := fun b hb => by
  rw [qryB_data] at hb
  rcases List.mem_append.1 hb with h | h
  · have := formF_safe _ b h
    exact ⟨this.1, this.2.1⟩
  · rcases List.mem_cons.1 h with rfl | h
    · decide
    · have := formF_safe _ b h
      exact ⟨this.1, this.2.1⟩
theorem mendS_qry (q : List (ByteArray × ByteArray)) : mendS (qryS q) = qryS q := by
  show (⟨(mend (qryS q).data.toList).toArray⟩ : ByteArray) = qryS q
  rw [mend_of_valid (Valid.asciis (fun b hb => by
    rw [qryS_data] at hb
    rcases mem_join _ b _ hb with ⟨x, hx, hb⟩ | hb
    · obtain ⟨y, hy, rfl⟩ := List.mem_map.1 hx
      obtain ⟨p, _, rfl⟩ := List.mem_map.1 hy
      exact (qryB_safe p b hb).1
    · simp at hb; subst hb; decide))]
theorem pieces_qry (q : List (ByteArray × ByteArray)) (hq : q ≠ []) : piecesB (qryS q) = q.map qryB := by
  have h1 := Lib.splitB_data ⟨#[38]⟩ 0 (Lib.countB (qryS q) ⟨#[38]⟩) (qryS q)
  have h2 : Lib.splitK [38] 0 (Lib.countB (qryS q) ⟨#[38]⟩) (Lib.join ((q.map qryB).map (·.data.toList)) [38]) = (q.map qryB).map (·.data.toList) := by
    apply split_join
    · simpa using hq
    · intro x hx b hb
      obtain ⟨y, hy, rfl⟩ := List.mem_map.1 hx
      obtain ⟨p, _, rfl⟩ := List.mem_map.1 hy
      exact (qryB_safe p b hb).2
    · have := join_count 38 ((q.map qryB).map (·.data.toList))
      have e : Lib.countB (qryS q) ⟨#[38]⟩ = (Lib.join ((q.map qryB).map (·.data.toList)) [38]).count 38 := Lib.count_one 38 _
      rw [e]; exact this
  have h3 : (piecesB (qryS q)).map (·.data.toList) = (q.map qryB).map (·.data.toList) := h1.trans h2
  have h4 := congrArg (List.map mkB) h3
  rw [List.map_map, List.map_map] at h4
  have e : (mkB ∘ fun x : ByteArray => x.data.toList) = id := funext fun s => mkB_of s
  rw [e, List.map_id, List.map_id] at h4
  exact h4
theorem pairP_qry (p : ByteArray × ByteArray) : pairP (qryB p) = (mendS p.1, mendS p.2) := by
  have hx := index_at 61 (formL p.2.data.toList) (formL p.1.data.toList) (fun b hb => (formF_safe _ b hb).2.2)
  have hc : Lib.cut (qryB p).data.toList [61] = (formL p.1.data.toList, formL p.2.data.toList, true) := by
    rw [qryB_data]
    unfold Lib.cut
    rw [if_pos (by rw [hx]; omega), hx]
    simp
  unfold pairP cutP
  rw [hc]
  show (mkB (sayL (formL p.1.data.toList)), mkB (sayL (formL p.2.data.toList))) = _
  rw [say_form, say_form]
  rfl
theorem pairs_query (q : List (ByteArray × ByteArray)) : pairsL (piecesB (mendS (qryS q))) = q.map (fun p => (mendS p.1, mendS p.2)) := by
  rw [mendS_qry]
  cases q with
  | nil => kernel_rfl
  | cons p t =>
    rw [pieces_qry _ (by simp)]
    unfold pairsL
    rw [List.filter_eq_self.2 (fun x hx => by
      obtain ⟨y, _, rfl⟩ := List.mem_map.1 hx
      rw [decide_eq_true_iff, size_eq, qryB_data]; simp; omega), List.map_map]
    exact List.map_congr_left (fun x _ => pairP_qry x)

end Go.Proofs.YtabagfhnkdhjdaaGreatDoor
