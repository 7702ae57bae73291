/- Merged: RefA, RefP, RefB, RefC, RefD, RefE. -/
import Derived.Test.YtabagfhnkdhjdaaGreatDoorSplitP
import Derived.Test.YtabagfhnkdhjdaaGreatDoorClean
/- The reference's small functions: letters, digits; the sizes of characters; 'good'. -/
set_option linter.unusedVariables false
set_option maxRecDepth 100000
namespace Go.Proofs.YtabagfhnkdhjdaaGreatDoor
open Go.RowKit Go.Lib

def sizeN (c : Nat) : Nat := if moreN c = 9 then 0 else moreN c + 1
set_option maxRecDepth 100000 in
set_option maxHeartbeats 1000000 in
theorem rsize_any (c : UInt8) (w : World) :
    Calls Tryz.prog 80 #[.int .u8 c.toNat] w fun e w' => e = .returned (.int .i64 (sizeN c.toNat)) ∧ w = w' := by
  have hc := c.toNat_lt
  obtain ⟨z, hz⟩ : ∃ z, sizeN c.toNat = z := ⟨_, rfl⟩
  rw [hz]
  have hk : (c.toNat < 128 ∧ z = 1) ∨ (128 ≤ c.toNat ∧ c.toNat < 194 ∧ z = 0) ∨ (194 ≤ c.toNat ∧ c.toNat ≤ 223 ∧ z = 2) ∨ (224 ≤ c.toNat ∧ c.toNat ≤ 239 ∧ z = 3) ∨ (240 ≤ c.toNat ∧ c.toNat ≤ 244 ∧ z = 4) ∨ (245 ≤ c.toNat ∧ z = 0) := by
    unfold sizeN moreN at hz
    by_cases a : c.toNat < 128
    · simp [a] at hz; omega
    · by_cases b : 194 ≤ c.toNat ∧ c.toNat ≤ 223
      · simp [a, b] at hz; omega
      · by_cases d : 224 ≤ c.toNat ∧ c.toNat ≤ 239
        · simp [a, b, d] at hz; omega
        · by_cases f : 240 ≤ c.toNat ∧ c.toNat ≤ 244
          · simp [a, b, d, f] at hz; omega
          · simp [a, b, d, f] at hz; omega
  clear hz
  rcases hk with ⟨h1, rfl⟩ | ⟨h1, h2, rfl⟩ | ⟨h1, h2, rfl⟩ | ⟨h1, h2, rfl⟩ | ⟨h1, h2, rfl⟩ | ⟨h1, rfl⟩
  all_goals
    go_enter Tryz.func80, Tryz.ntmps80
    go_wp2
    go_ret
    exact ⟨rfl, rfl⟩

def secB (c d : Nat) : Bool := decide (loN c ≤ d) && decide (d ≤ hiN c)
theorem secB_true {c d : Nat} (h : ¬ (d < loN c ∨ hiN c < d)) : secB c d = true := by unfold secB; simp; omega
theorem secB_false {c d : Nat} (h : d < loN c ∨ hiN c < d) : secB c d = false := by
  unfold secB
  rw [Bool.and_eq_false_iff]
  simp; omega

set_option maxRecDepth 100000 in
set_option maxHeartbeats 2000000 in
theorem rsecond_any (c d : UInt8) (w : World) :
    Calls Tryz.prog 81 #[.int .u8 c.toNat, .int .u8 d.toNat] w fun e w' => e = .returned (.bool (secB c.toNat d.toNat)) ∧ w' = w := by
  have hc := c.toNat_lt
  have hd := d.toNat_lt
  obtain ⟨b, hb⟩ : ∃ b, secB c.toNat d.toNat = b := ⟨_, rfl⟩
  obtain ⟨lo, hi, hlo, hhi⟩ : ∃ lo hi, loN c.toNat = lo ∧ hiN c.toNat = hi := ⟨_, _, rfl, rfl⟩
  have hb2 : (decide (lo ≤ d.toNat) && decide (d.toNat ≤ hi)) = b := by rw [← hb]; unfold secB; rw [hlo, hhi]
  rw [hb]
  clear hb
  generalize hn : (c.toNat : Int) = n at *
  have hk : (n = 224 ∧ lo = 160 ∧ hi = 191) ∨ (n = 237 ∧ lo = 128 ∧ hi = 159) ∨ (n = 240 ∧ lo = 144 ∧ hi = 191) ∨ (n = 244 ∧ lo = 128 ∧ hi = 143) ∨ ((n ≠ 224 ∧ n ≠ 237 ∧ n ≠ 240 ∧ n ≠ 244) ∧ lo = 128 ∧ hi = 191) := by
    unfold loN at hlo
    unfold hiN at hhi
    by_cases a : c.toNat = 224
    · simp [a] at hlo hhi; omega
    · by_cases b : c.toNat = 237
      · simp [b] at hlo hhi; omega
      · by_cases d : c.toNat = 240
        · simp [d] at hlo hhi; omega
        · by_cases f : c.toNat = 244
          · simp [f] at hlo hhi; omega
          · simp [a, b, d, f] at hlo hhi; omega
  clear hlo hhi hn hc
  rcases hk with ⟨rfl, rfl, rfl⟩ | ⟨rfl, rfl, rfl⟩ | ⟨rfl, rfl, rfl⟩ | ⟨rfl, rfl, rfl⟩ | ⟨⟨a1, a2, a3, a4⟩, rfl, rfl⟩
  case inr.inr.inr.inr =>
    have e1 : (n == 224) = false := beq_eq_false_iff_ne.2 a1
    have e2 : (n == 237) = false := beq_eq_false_iff_ne.2 a2
    have e3 : (n == 240) = false := beq_eq_false_iff_ne.2 a3
    have e4 : (n == 244) = false := beq_eq_false_iff_ne.2 a4
    clear a1 a2 a3 a4
    by_cases h1 : (128 : Int) ≤ (d.toNat : Int) <;> by_cases h2 : (d.toNat : Int) ≤ 191
    all_goals try (exfalso; omega)
    all_goals
      have hbb : Hid (b = (decide ((128 : Int) ≤ (d.toNat : Int)) && decide ((d.toNat : Int) ≤ 191))) := by show b = (decide ((128 : Int) ≤ (d.toNat : Int)) && decide ((d.toNat : Int) ≤ 191)); rw [← hb2]; congr 1 <;> (apply decide_eq_decide.2; omega)
      clear hb2
      go_enter Tryz.func81, Tryz.ntmps81
      go_wp2
      go_ret
      exact ⟨by rw [hbb.out]; simp [h1, h2], rfl⟩

  case inl =>
    by_cases h1 : (160 : Int) ≤ (d.toNat : Int) <;> by_cases h2 : (d.toNat : Int) ≤ 191
    all_goals try (exfalso; omega)
    all_goals
      have hbb : Hid (b = (decide ((160 : Int) ≤ (d.toNat : Int)) && decide ((d.toNat : Int) ≤ 191))) := by show b = (decide ((160 : Int) ≤ (d.toNat : Int)) && decide ((d.toNat : Int) ≤ 191)); rw [← hb2]; congr 1 <;> (apply decide_eq_decide.2; omega)
      clear hb2
      go_enter Tryz.func81, Tryz.ntmps81
      go_wp2
      go_ret
      exact ⟨by rw [hbb.out]; simp [h1, h2], rfl⟩
  case inr.inl =>
    by_cases h1 : (128 : Int) ≤ (d.toNat : Int) <;> by_cases h2 : (d.toNat : Int) ≤ 159
    all_goals try (exfalso; omega)
    all_goals
      have hbb : Hid (b = (decide ((128 : Int) ≤ (d.toNat : Int)) && decide ((d.toNat : Int) ≤ 159))) := by show b = (decide ((128 : Int) ≤ (d.toNat : Int)) && decide ((d.toNat : Int) ≤ 159)); rw [← hb2]; congr 1 <;> (apply decide_eq_decide.2; omega)
      clear hb2
      go_enter Tryz.func81, Tryz.ntmps81
      go_wp2
      go_ret
      exact ⟨by rw [hbb.out]; simp [h1, h2], rfl⟩
  case inr.inr.inl =>
    by_cases h1 : (144 : Int) ≤ (d.toNat : Int) <;> by_cases h2 : (d.toNat : Int) ≤ 191
    all_goals try (exfalso; omega)
    all_goals
      have hbb : Hid (b = (decide ((144 : Int) ≤ (d.toNat : Int)) && decide ((d.toNat : Int) ≤ 191))) := by show b = (decide ((144 : Int) ≤ (d.toNat : Int)) && decide ((d.toNat : Int) ≤ 191)); rw [← hb2]; congr 1 <;> (apply decide_eq_decide.2; omega)
      clear hb2
      go_enter Tryz.func81, Tryz.ntmps81
      go_wp2
      go_ret
      exact ⟨by rw [hbb.out]; simp [h1, h2], rfl⟩
  case inr.inr.inr.inl =>
    by_cases h1 : (128 : Int) ≤ (d.toNat : Int) <;> by_cases h2 : (d.toNat : Int) ≤ 143
    all_goals try (exfalso; omega)
    all_goals
      have hbb : Hid (b = (decide ((128 : Int) ≤ (d.toNat : Int)) && decide ((d.toNat : Int) ≤ 143))) := by show b = (decide ((128 : Int) ≤ (d.toNat : Int)) && decide ((d.toNat : Int) ≤ 143)); rw [← hb2]; congr 1 <;> (apply decide_eq_decide.2; omega)
      clear hb2
      go_enter Tryz.func81, Tryz.ntmps81
      go_wp2
      go_ret
      exact ⟨by rw [hbb.out]; simp [h1, h2], rfl⟩

end Go.Proofs.YtabagfhnkdhjdaaGreatDoor
/- The reference's words on bytes and links, plain, held against ours. No program is walked here. -/
set_option linter.unusedVariables false
set_option maxRecDepth 100000
namespace Go.Proofs.YtabagfhnkdhjdaaGreatDoor
open Go.RowKit Go.Lib

def foldR (r : Nat) (l : List UInt8) : Nat := l.foldl (fun r x => r * 64 + x.toNat % 64) r
theorem foldR_nil (r : Nat) : foldR r [] = r := rfl
theorem foldR_cons (r : Nat) (x : UInt8) (l : List UInt8) : foldR r (x :: l) = foldR (r * 64 + x.toNat % 64) l := rfl
theorem foldR_snoc (r : Nat) (l : List UInt8) (x : UInt8) : foldR r (l ++ [x]) = foldR r l * 64 + x.toNat % 64 := by simp [foldR]

theorem readGo_whole (n i r lo hi : Nat) (t : List UInt8) (h : (readGo n i r lo hi t).2.2 = 0) :
    n ≤ t.length ∧ (readGo n i r lo hi t).2.1 = i + n ∧ (readGo n i r lo hi t).1 = foldR r (t.take n) := by
  induction n generalizing i r lo hi t with
  | zero => simp [readGo, foldR]
  | succ n ih =>
    cases t with
    | nil => simp [readGo] at h
    | cons x t =>
      by_cases hb : x.toNat < lo ∨ hi < x.toNat
      · rw [readGo, if_pos hb] at h; simp at h
      · rw [readGo, if_neg hb] at h
        rw [readGo, if_neg hb]
        obtain ⟨h1, h2, h3⟩ := ih (i + 1) _ 128 191 t h
        refine ⟨by simp; omega, by omega, ?_⟩
        rw [h3]; rfl

theorem readGo_wrong (n i r lo hi : Nat) (t : List UInt8) (h : (readGo n i r lo hi t).2.2 ≠ 0) : (readGo n i r lo hi t).1 = 65533 := by
  induction n generalizing i r lo hi t with
  | zero => simp [readGo] at h
  | succ n ih =>
    cases t with
    | nil => rfl
    | cons x t =>
      by_cases hb : x.toNat < lo ∨ hi < x.toNat
      · rw [readGo, if_pos hb]
      · rw [readGo, if_neg hb] at h
        rw [readGo, if_neg hb]
        exact ih _ _ _ _ _ h

/-- What 'good' hands back. -/
def headN (l : List UInt8) : Nat := (l.headD 0).toNat
def gdN (l : List UInt8) : Nat := if moreN (headN l) = 9 then 0 else (piece l).2.1
def gdB (l : List UInt8) : Bool := (piece l).2.2 == 0
/-- The first byte's share of the rune. -/
def startR (c m : Nat) : Nat := if m = 0 then c else c % modN m

theorem piece_parts (c : UInt8) (t : List UInt8) :
    (moreN c.toNat = 9 ∧ gdN (c :: t) = 0 ∧ gdB (c :: t) = false ∧ piece (c :: t) = (65533, 1, 1)) ∨
    (moreN c.toNat ≤ 3 ∧ gdN (c :: t) = (piece (c :: t)).2.1 ∧ gdB (c :: t) = false ∧ (piece (c :: t)).1 = 65533) ∨
    (moreN c.toNat ≤ 3 ∧ gdB (c :: t) = true ∧ gdN (c :: t) = moreN c.toNat + 1 ∧ (piece (c :: t)).2.1 = moreN c.toNat + 1 ∧ moreN c.toNat ≤ t.length ∧ (piece (c :: t)).1 = foldR (startR c.toNat (moreN c.toNat)) (t.take (moreN c.toNat))) := by
  have hc := c.toNat_lt
  have hm : moreN c.toNat = 9 ∨ moreN c.toNat ≤ 3 := by
    rcases more_cases c.toNat (by omega) with h | h | h | h | h <;> omega
  have hh : headN (c :: t) = c.toNat := rfl
  rcases hm with h | h
  · left
    have hp : piece (c :: t) = (65533, 1, 1) := by rw [piece_cons, if_neg (by omega), if_pos h]
    refine ⟨h, ?_, ?_, hp⟩
    · unfold gdN; rw [hh, if_pos h]
    · unfold gdB; rw [hp]; rfl
  · right
    have hg : gdN (c :: t) = (piece (c :: t)).2.1 := by unfold gdN; rw [hh, if_neg (by omega)]
    by_cases h0 : moreN c.toNat = 0
    · right
      have hp : piece (c :: t) = (c.toNat, 1, 0) := by rw [piece_cons, if_pos h0]
      refine ⟨h, ?_, ?_, ?_, by omega, ?_⟩
      · unfold gdB; rw [hp]; rfl
      · rw [hg, hp, h0]
      · rw [hp, h0]
      · rw [hp, h0]; rfl
    · have hp : piece (c :: t) = readGo (moreN c.toNat) 1 (c.toNat % modN (moreN c.toNat)) (loN c.toNat) (hiN c.toNat) t := by rw [piece_cons, if_neg h0, if_neg (by omega)]
      by_cases hw : (piece (c :: t)).2.2 = 0
      · right
        have hw2 := hw
        rw [hp] at hw2
        obtain ⟨h1, h2, h3⟩ := readGo_whole _ _ _ _ _ _ hw2
        rw [← hp] at h2 h3
        refine ⟨h, ?_, by omega, by omega, h1, ?_⟩
        · unfold gdB; rw [hw]; rfl
        · rw [h3]; unfold startR; rw [if_neg h0]
      · left
        have hw2 := hw
        rw [hp] at hw2
        have := readGo_wrong _ _ _ _ _ _ hw2
        rw [← hp] at this
        refine ⟨h, hg, ?_, this⟩
        unfold gdB
        exact beq_eq_false_iff_ne.2 hw

/-- The pieces: rune, place, size, whether right. -/
def pcsF : Nat → Nat → List UInt8 → List (Nat × Nat × Nat × Bool)
  | 0, _, _ => []
  | _ + 1, _, [] => []
  | n + 1, i, c :: t => ((piece (c :: t)).1, i, (piece (c :: t)).2.1, gdB (c :: t)) :: pcsF n (i + (piece (c :: t)).2.1) ((c :: t).drop (piece (c :: t)).2.1)
def pcs (i : Nat) (l : List UInt8) : List (Nat × Nat × Nat × Bool) := pcsF l.length i l

theorem pcsF_enough (n i : Nat) (l : List UInt8) (h : l.length ≤ n) : pcsF n i l = pcs i l := by
  unfold pcs
  induction n using Nat.strongRecOn generalizing l i with
  | ind n ih =>
    cases l with
    | nil => cases n <;> simp [pcsF]
    | cons c t =>
      cases n with
      | zero => simp at h
      | succ n =>
        have hs := piece_size c t
        simp only [List.length_cons] at h ⊢
        simp only [pcsF]
        congr 1
        have hl : ((c :: t).drop (piece (c :: t)).2.1).length ≤ t.length := by
          simp only [List.length_drop, List.length_cons]; omega
        rw [ih n (by omega) _ _ (by omega)]
        by_cases e : t.length < n + 1
        · rw [ih t.length (by omega) _ _ hl]
        · omega
theorem pcs_nil (i : Nat) : pcs i [] = [] := rfl
theorem pcs_cons (i : Nat) (c : UInt8) (t : List UInt8) : pcs i (c :: t) = ((piece (c :: t)).1, i, (piece (c :: t)).2.1, gdB (c :: t)) :: pcs (i + (piece (c :: t)).2.1) ((c :: t).drop (piece (c :: t)).2.1) := by
  have hs := piece_size c t
  rw [← pcsF_enough t.length _ ((c :: t).drop _) (by simp only [List.length_drop, List.length_cons]; omega)]
  rfl
theorem pcs_runes (n : Nat) : ∀ (i : Nat) (l : List UInt8), l.length ≤ n → (pcs i l).map (·.1) = runes l := by
  induction n with
  | zero => intro i l h; cases l with
    | nil => rfl
    | cons => simp at h
  | succ n ih =>
    intro i l h
    cases l with
    | nil => rfl
    | cons c t =>
      have hs := piece_size c t
      rw [pcs_cons, runes_cons, List.map_cons, ih _ _ (by simp only [List.length_drop, List.length_cons] at h ⊢; omega)]

/-! Strip, byte by byte. -/
def trimLB : List UInt8 → List UInt8
  | [] => []
  | b :: t => if b.toNat ≤ 32 then trimLB t else b :: t
def trimRB (l : List UInt8) : List UInt8 := (trimLB l.reverse).reverse
def keepB (b : UInt8) : Bool := !(b.toNat == 9 || b.toNat == 10 || b.toNat == 13)

theorem trimLB_low {x : UInt8} {xs : List UInt8} (h : x.toNat ≤ 32) : trimLB (x :: xs) = trimLB xs := by rw [trimLB, if_pos h]
theorem trimLB_high {x : UInt8} {xs : List UInt8} (h : ¬ x.toNat ≤ 32) : trimLB (x :: xs) = x :: xs := by rw [trimLB, if_neg h]
theorem trimRB_nil : trimRB [] = [] := rfl
theorem trimRB_low (l : List UInt8) (r : UInt8) (h : r.toNat ≤ 32) : trimRB (l ++ [r]) = trimRB l := by
  unfold trimRB
  rw [List.reverse_append]
  simp [trimLB, h]
theorem trimRB_high (l : List UInt8) (r : UInt8) (h : ¬ r.toNat ≤ 32) : trimRB (l ++ [r]) = l ++ [r] := by
  unfold trimRB
  rw [List.reverse_append]
  simp [trimLB, h]

theorem trimLB_enc : ∀ (rs : List Nat), (∀ r ∈ rs, isCh r) → trimLB (encAll rs) = encAll (trimLN rs)
  | [], _ => rfl
  | r :: rs, h => by
    have hr := h r (by simp)
    have ih := trimLB_enc rs (fun x hx => h x (by simp [hx]))
    rw [encAll_cons]
    by_cases h32 : r ≤ 32
    · rw [trimLN_low h32, ← ih, enc_low (by omega)]
      exact trimLB_low (by rw [bt_toNat _ (by omega)]; exact h32)
    · rw [trimLN_high h32, encAll_cons]
      by_cases h128 : r < 128
      · rw [enc_low h128]
        exact trimLB_high (by rw [bt_toNat _ (by omega)]; exact h32)
      · obtain ⟨c, u, hcu⟩ := enc_cons r
        have := enc_high hr (by omega) c (by rw [hcu]; simp)
        rw [hcu]
        exact trimLB_high (by omega)

theorem trimRB_enc (rs : List Nat) (h : ∀ r ∈ rs, isCh r) : trimRB (encAll rs) = encAll (trimRN rs) := by
  induction hn : rs.length generalizing rs with
  | zero => obtain rfl := List.length_eq_zero_iff.1 hn; rfl
  | succ n ih =>
    rcases List.eq_nil_or_concat rs with rfl | ⟨ys, r, rfl⟩
    · rfl
    · rw [List.concat_eq_append] at *
      have hr := h r (by simp)
      have hys : ys.length = n := by simpa using hn
      have ih2 := ih ys (fun x hx => h x (by simp [hx])) hys
      rw [encAll_append]
      have e1 : encAll [r] = enc r := by simp [encAll]
      rw [e1]
      by_cases h32 : r ≤ 32
      · rw [trimRN_low _ _ h32, ← ih2, enc_low (by omega)]
        exact trimRB_low _ _ (by rw [bt_toNat _ (by omega)]; exact h32)
      · rw [trimRN_high _ _ h32, encAll_append, e1]
        rcases List.eq_nil_or_concat (enc r) with he | ⟨u, b, hub⟩
        · exact absurd he (enc_ne r)
        · rw [List.concat_eq_append] at hub
          have hb : ¬ b.toNat ≤ 32 := by
            by_cases h128 : r < 128
            · have hb2 : b ∈ enc r := by rw [hub]; simp
              rw [enc_low h128] at hb2
              simp at hb2
              rw [hb2, bt_toNat _ (by omega)]; exact h32
            · have := enc_high hr (by omega) b (by rw [hub]; simp)
              omega
          rw [hub, ← List.append_assoc]
          exact trimRB_high _ _ hb

theorem keepB_enc (rs : List Nat) (h : ∀ r ∈ rs, isCh r) : (encAll rs).filter keepB = encAll (rs.filter keepN) := by
  induction rs with
  | nil => rfl
  | cons r rs ih =>
    have hr := h r (by simp)
    rw [encAll_cons, List.filter_append, ih (fun x hx => h x (by simp [hx])), List.filter_cons]
    by_cases h128 : r < 128
    · rw [enc_low h128]
      have hk : keepB (bt r) = keepN r := by unfold keepB keepN; rw [bt_toNat _ (by omega)]
      rw [List.filter_cons, hk]
      by_cases hk2 : keepN r = true
      · rw [if_pos hk2, if_pos hk2, encAll_cons, enc_low h128]; rfl
      · rw [if_neg hk2, if_neg hk2]; rfl
    · have hk2 : keepN r = true := by simp [keepN]; omega
      rw [if_pos hk2, encAll_cons]
      congr 1
      rw [List.filter_eq_self]
      intro b hb
      have := enc_high hr (by omega) b hb
      simp [keepB]; omega

theorem strip_bytes (l : List UInt8) : (trimRB (trimLB (mend l))).filter keepB = strip l := by
  unfold mend strip stripN
  have h := runes_ch l
  rw [trimLB_enc _ h, trimRB_enc _ (fun r hr => h r (trimLN_sub _ r hr)), keepB_enc _ (fun r hr => h r (trimLN_sub _ r (trimRN_sub _ r hr)))]

/-! The : of a scheme. -/
def colZ (l : List UInt8) : Int := match colon l with | some n => (n : Int) | none => -1
theorem rlet_sch {c : UInt8} (h : letB c = true) : c.toNat ≠ 58 ∧ schB c = true := by
  have h2 : letZ (c.toNat : Int) = true := h
  refine ⟨fun e => ?_, ?_⟩
  · rw [e] at h2; simp [letZ, upZ, loZ] at h2
  · show schZ (c.toNat : Int) = true
    unfold schZ; rw [h2]; rfl
theorem colon_zero {c : UInt8} {t : List UInt8} (h : letB c = true) : colon (c :: t) = colonGo (c :: t) 0 := by
  obtain ⟨h1, h2⟩ := rlet_sch h
  have e : colon (c :: t) = if letB c then colonGo t 1 else none := rfl
  rw [e, if_pos h, colonGo, if_neg h1, if_pos h2]
theorem colZ_some {l : List UInt8} {n : Nat} (h : colon l = some n) : colZ l = n := by unfold colZ; rw [h]
theorem colZ_none {l : List UInt8} (h : colon l = none) : colZ l = -1 := by unfold colZ; rw [h]
theorem colZ_ge (l : List UInt8) : (0 ≤ colZ l) ↔ colB l = true := by
  unfold colZ colB
  cases colon l with
  | none => simp
  | some n => simp
theorem colZ_is {l : List UInt8} (h : colB l = true) : colZ l = (colN l : Nat) := by
  unfold colB at h
  unfold colZ colN
  cases hc : colon l with
  | none => rw [hc] at h; cases h
  | some n => rfl
theorem colZ_not {l : List UInt8} (h : colB l = false) : colZ l = -1 := by
  unfold colB at h
  unfold colZ
  cases hc : colon l with
  | none => rfl
  | some n => rw [hc] at h; cases h

/-! Where the first of some bytes stands. -/
theorem upTo_hit {l c : List UInt8} {i : Nat} {b : UInt8} (hno : ∀ (j : Nat) (x : UInt8), j < i → l[j]? = some x → c.contains x = false) (hb : l[i]? = some b) (hc : c.contains b = true) : upTo l c = i := by
  induction l generalizing i with
  | nil => simp at hb
  | cons a l ih =>
    cases i with
    | zero => simp at hb; subst hb; unfold upTo; rw [if_pos hc]
    | succ i =>
      have h0 := hno 0 a (by omega) rfl
      unfold upTo
      rw [if_neg (by rw [h0]; exact Bool.false_ne_true)]
      rw [ih (i := i) (fun j x hj hx => hno (j + 1) x (by omega) (by simpa using hx)) (by simpa using hb)]
theorem upTo_miss {l c : List UInt8} (hno : ∀ (j : Nat) (x : UInt8), l[j]? = some x → c.contains x = false) : upTo l c = l.length := by
  induction l with
  | nil => rfl
  | cons a l ih =>
    have h0 := hno 0 a rfl
    unfold upTo
    rw [if_neg (by rw [h0]; exact Bool.false_ne_true), ih (fun j x hx => hno (j + 1) x (by simpa using hx))]
    rfl

end Go.Proofs.YtabagfhnkdhjdaaGreatDoor
/- The reference's 'good': the longest good beginning. -/
set_option linter.unusedVariables false
set_option maxRecDepth 100000
namespace Go.Proofs.YtabagfhnkdhjdaaGreatDoor
open Go.RowKit Go.Lib

theorem gd_low {c : UInt8} {t : List UInt8} (h : moreN c.toNat = 0) : gdN (c :: t) = 1 ∧ gdB (c :: t) = true := by
  have hp : piece (c :: t) = (c.toNat, 1, 0) := by rw [piece_cons, if_pos h]
  have hh : headN (c :: t) = c.toNat := rfl
  unfold gdN gdB
  rw [hh, hp, h]
  exact ⟨rfl, rfl⟩
theorem gd_bad {c : UInt8} {t : List UInt8} (h : moreN c.toNat = 9) : gdN (c :: t) = 0 ∧ gdB (c :: t) = false := by
  have hp : piece (c :: t) = (65533, 1, 1) := by rw [piece_cons, if_neg (by omega), if_pos h]
  have hh : headN (c :: t) = c.toNat := rfl
  unfold gdN gdB
  rw [hh, hp, if_pos h]
  exact ⟨rfl, rfl⟩
theorem gd_of {c : UInt8} {t : List UInt8} {r k w : Nat} (h : moreN c.toNat ≠ 9) (hp : piece (c :: t) = (r, k, w)) : gdN (c :: t) = k ∧ gdB (c :: t) = (w == 0) := by
  have hh : headN (c :: t) = c.toNat := rfl
  unfold gdN gdB
  rw [hh, hp, if_neg h]
  exact ⟨rfl, rfl⟩

def goodV (l : List UInt8) : Value := .tuple #[.int .i64 (gdN l), .bool (gdB l)]
theorem goodV_is {l : List UInt8} {k : Nat} {b : Bool} (h : gdN l = k ∧ gdB l = b) : Ending.returned (.tuple #[.int .i64 k, .bool b]) = Ending.returned (goodV l) := by
  unfold goodV; rw [h.1, h.2]

theorem drewN_add (w : World) (a b : Nat) : (w.drewN a).drewN b = w.drewN (a + b) := World.drewN_drewN _ _ _

set_option maxRecDepth 100000 in
set_option maxHeartbeats 1000000 in
theorem good_any (B o n cap : Nat) (l : List UInt8) (w : World) (hl : l.length = n) (hn : 0 < n) (hn2 : n ≤ 140737488355328)
    (hcell : ∀ j x, l[j]? = some x → w.cell? ⟨B, o + j, none⟩ = some (.int .u8 x.toNat)) :
    Calls Tryz.prog 52 #[.slice (some ⟨B, o, none⟩) n cap] w fun e w' => e = .returned (goodV l) ∧ ∃ nq, w.drewN nq = w' := by
  cases l with
  | nil => simp at hl; omega
  | cons c t =>
    have hnI : (0 : Int) < (n : Int) := by omega
    have hc0 := hcell 0 c rfl
    rw [Nat.add_zero] at hc0
    have HC := Lib.hid hcell
    have HL := Lib.hid hl
    clear hcell hl
    have hc := c.toNat_lt
    have hsz := fun w => rsize_any c w
    rcases more_cases c.toNat (by omega) with ⟨h, h2⟩ | h | h
    · have e : sizeN c.toNat = 1 := by unfold sizeN; rw [h]; rfl
      rw [e] at hsz
      have HG := Lib.hid (gd_low (t := t) h)
      clear h e
      go_enter Tryz.func52, Tryz.ntmps52
      go_wp2_with (go_at_call 80; refine (hsz _).mono ?_; rintro e w' ⟨rfl, rfl⟩)
      go_loop [5] (fun k => k = .int .i64 1) (fun _ => 0)
      case atStart => rfl
      case round =>
        subst hrel
        go_wp2
        go_ret2
        exact ⟨goodV_is HG.out, 0, rfl⟩
    · have e : sizeN c.toNat = 0 := by unfold sizeN; rw [h]; rfl
      rw [e] at hsz
      have HG := Lib.hid (gd_bad (t := t) h)
      clear h e
      go_enter Tryz.func52, Tryz.ntmps52
      go_wp2_with (go_at_call 80; refine (hsz _).mono ?_; rintro e w' ⟨rfl, rfl⟩)
      go_ret2
      exact ⟨goodV_is HG.out, 0, rfl⟩
    · obtain ⟨m, lo, hi, hm, hlo, hhi⟩ : ∃ m lo hi, moreN c.toNat = m ∧ loN c.toNat = lo ∧ hiN c.toNat = hi := ⟨_, _, _, rfl, rfl, rfl⟩
      have hm13 : 1 ≤ m ∧ m ≤ 3 := by omega
      obtain ⟨z, hz⟩ : ∃ z, m + 1 = z := ⟨_, rfl⟩
      have e : sizeN c.toNat = z := by unfold sizeN; rw [if_neg (by omega), hm, hz]
      rw [e] at hsz
      have HM : Hid (moreN c.toNat ≠ 9) := by show _ ≠ _; omega
      have HP : Hid (piece (c :: t) = readGo m 1 (c.toNat % modN m) lo hi t) := by
        show _ = _
        rw [piece_cons, if_neg (by omega), if_neg (by omega), hm, hlo, hhi]
      have HLO := Lib.hid hlo
      have HHI := Lib.hid hhi
      have hz2 : 2 ≤ z ∧ z ≤ 4 := by omega
      obtain ⟨hz3, hz4⟩ := hz2
      have hz0 : ((z : Int) == 0) = false := beq_eq_false_iff_ne.2 (by omega)
      have HZ := Lib.hid hz
      clear h hm hlo hhi e hz hm13
      go_enter Tryz.func52, Tryz.ntmps52
      go_wp2_with (go_at_call 80; refine (hsz _).mono ?_; rintro e w' ⟨rfl, rfl⟩)
      clear hsz
      go_loopw [5] (fun k wr => ∃ kk q lo' hi' a : Nat, 1 ≤ kk ∧ kk ≤ z ∧ kk ≤ n ∧ k = .int .i64 kk ∧ (kk = 1 → lo' = lo ∧ hi' = hi) ∧ (1 < kk → lo' = 128 ∧ hi' = 191) ∧ piece (c :: t) = readGo (z - kk) kk q lo' hi' (t.drop (kk - 1)) ∧ wr = w.drewN a) (fun k _ => z - (RowKit.intOf k).toNat)
      case atStart => exact ⟨1, _, lo, hi, 0, Nat.le_refl _, by omega, by omega, rfl, fun _ => ⟨rfl, rfl⟩, fun h => by omega, by rw [HP.out]; congr 1; have := HZ.out; omega, rfl⟩
      case round =>
        obtain ⟨kk, q, lo', hi', a, hk1, hkz, hkn, rfl, hq1, hq2, hrel2, rfl⟩ := hrel
        have HR := Lib.hid hrel2
        have HQ1 := Lib.hid hq1
        have HQ2 := Lib.hid hq2
        clear hrel2 hq1 hq2 HP
        by_cases hlt : kk < z
        · have hltI : (kk : Int) < (z : Int) := by omega
          by_cases hkn2 : kk < n
          · have hknI : (kk : Int) < (n : Int) := by omega
            have hlt2 : kk - 1 < t.length := by have := HL.out; simp at this; omega
            obtain ⟨x, hx⟩ : ∃ x, t[kk - 1] = x := ⟨_, rfl⟩
            have hxk : (c :: t)[kk]? = some x := by
              rw [show kk = (kk - 1) + 1 by omega, List.getElem?_cons_succ, List.getElem?_eq_getElem hlt2, hx]
            have hcx := HC.out kk x hxk
            have HE : Hid (t.drop (kk - 1) = x :: t.drop kk) := by
              show _ = _
              rw [List.drop_eq_getElem_cons hlt2, hx, show kk - 1 + 1 = kk by omega]
            have hxb := byte_le x
            clear hx hxk hlt2
            by_cases hb : x.toNat < lo' ∨ hi' < x.toNat
            · -- it breaks off here
              have HX : Hid (gdN (c :: t) = kk ∧ gdB (c :: t) = false) := by
                have h := HR.out
                rw [HE.out, readGo_bad _ _ _ _ _ _ _ (by omega) hb] at h
                exact gd_of HM.out h
              have hkz0 : ((kk : Int) == (z : Int)) = false := beq_eq_false_iff_ne.2 (by omega)
              by_cases h1 : kk = 1
              · have hs : secB c.toNat x.toNat = false := secB_false (by rw [HLO.out, HHI.out]; obtain ⟨e1, e2⟩ := HQ1.out h1; rw [e1, e2] at hb; exact hb)
                have hsec := fun w => rsecond_any c x w
                rw [hs] at hsec
                have hk1b : ((kk : Int) == 1) = true := beq_iff_eq.2 (by omega)
                subst h1
                clear hs hb
                have hone : (1 : Int) < (n : Int) := by omega
                have hkz1 : ((1 : Int) == (z : Int)) = false := beq_eq_false_iff_ne.2 (by omega)
                go_wp2
                go_quiet ((go_at_call 81; exact quiet_add_same (hsec _)))
                go_wp2
                go_ret2
                exact ⟨goodV_is HX.out, _, rfl⟩
              · have h128 : x.toNat < 128 ∨ 191 < x.toNat := by obtain ⟨e1, e2⟩ := HQ2.out (by omega); omega
                have hk1b : ((kk : Int) == 1) = false := beq_eq_false_iff_ne.2 (by omega)
                have hk1c : (1 : Int) < (kk : Int) := by omega
                have hk1d : decide ((1 : Int) < (kk : Int)) = true := decide_eq_true hk1c
                by_cases h3 : (x.toNat : Int) < 128
                · have h3d : decide ((x.toNat : Int) < 128) = true := decide_eq_true h3
                  clear hb h128 h1
                  go_wp2
                  go_quiet (fail)
                  go_wp2
                  go_ret2
                  exact ⟨goodV_is HX.out, _, rfl⟩
                · have h4 : (191 : Int) < (x.toNat : Int) := by omega
                  have h3d : decide ((x.toNat : Int) < 128) = false := decide_eq_false h3
                  clear hb h128 h1
                  go_wp2
                  go_quiet (fail)
                  go_wp2
                  go_ret2
                  exact ⟨goodV_is HX.out, _, rfl⟩
            · have HX : Hid (piece (c :: t) = readGo (z - (kk + 1)) (kk + 1) (q * 64 + x.toNat % 64) 128 191 (t.drop (kk + 1 - 1))) := by
                show _ = _
                rw [HR.out, HE.out, readGo_good _ _ _ _ _ _ _ (by omega) hb, show z - kk - 1 = z - (kk + 1) by omega, show kk + 1 - 1 = kk by omega]
              by_cases h1 : kk = 1
              · have hs : secB c.toNat x.toNat = true := secB_true (by rw [HLO.out, HHI.out]; obtain ⟨e1, e2⟩ := HQ1.out h1; rw [e1, e2] at hb; exact hb)
                have hsec := fun w => rsecond_any c x w
                rw [hs] at hsec
                have hk1b : ((kk : Int) == 1) = true := beq_iff_eq.2 (by omega)
                subst h1
                clear hs hb
                have hone : (1 : Int) < (n : Int) := by omega
                go_wp2
                go_quiet ((go_at_call 81; exact quiet_add_same (hsec _)))
                go_wp2
                go_roundw
                case rel => exact ⟨1 + 1, _, 128, 191, _, by omega, by omega, by omega, by go_num, fun h => by omega, fun _ => ⟨rfl, rfl⟩, HX.out, rfl⟩
                case measure => simp [RowKit.intOf]; omega
              · have h128 : ¬ (x.toNat < 128 ∨ 191 < x.toNat) := by obtain ⟨e1, e2⟩ := HQ2.out (by omega); omega
                have hk1b : ((kk : Int) == 1) = false := beq_eq_false_iff_ne.2 (by omega)
                have hk1c : (1 : Int) < (kk : Int) := by omega
                have hk1d : decide ((1 : Int) < (kk : Int)) = true := decide_eq_true hk1c
                have h3 : ¬ (x.toNat : Int) < 128 := by omega
                have h4 : ¬ (191 : Int) < (x.toNat : Int) := by omega
                have h3d : decide ((x.toNat : Int) < 128) = false := decide_eq_false h3
                clear hb h128 h1
                go_wp2
                go_quiet (fail)
                go_wp2
                go_roundw
                case rel => exact ⟨kk + 1, _, 128, 191, _, by omega, by omega, by omega, by go_num, fun h => by omega, fun _ => ⟨rfl, rfl⟩, HX.out, rfl⟩
                case measure => simp [RowKit.intOf]; omega
          · obtain rfl : kk = n := by omega
            have hkz0 : ((kk : Int) == (z : Int)) = false := beq_eq_false_iff_ne.2 (by omega)
            have HX : Hid (gdN (c :: t) = kk ∧ gdB (c :: t) = false) := by
              have h := HR.out
              rw [List.drop_of_length_le (by have := HL.out; simp at this; omega), readGo_nil _ _ _ _ _ (by omega)] at h
              exact gd_of HM.out h
            go_wp2
            go_ret2
            exact ⟨goodV_is HX.out, _, rfl⟩
        · obtain rfl : kk = z := by omega
          have HX : Hid (gdN (c :: t) = kk ∧ gdB (c :: t) = true) := by
            have h := HR.out
            rw [Nat.sub_self] at h
            exact gd_of HM.out h
          go_wp2
          go_ret2
          exact ⟨goodV_is HX.out, _, rfl⟩

end Go.Proofs.YtabagfhnkdhjdaaGreatDoor
/- The reference's Pieces: the runes of bytes. -/
set_option linter.unusedVariables false
set_option maxRecDepth 100000
namespace Go.Proofs.YtabagfhnkdhjdaaGreatDoor
open Go.RowKit Go.Lib

theorem infoPc : (Tryz.prog.info? 50).map (fun i => (i.zero, i.size, i.bytes)) = some (some (.agg #[.int .i32 0, .int .i64 0, .int .i64 0, .bool false]), 4, 32) := by kernel_rfl

def pcRow (p : Nat × Nat × Nat × Bool) : List Value := [.int .i32 (p.1 : Nat), .int .i64 (p.2.1 : Nat), .int .i64 (p.2.2.1 : Nat), .bool p.2.2.2]
def pcCells (ps : List (Nat × Nat × Nat × Bool)) : List Value := ps.flatMap pcRow
theorem pcCells_snoc (ps : List (Nat × Nat × Nat × Bool)) (p : Nat × Nat × Nat × Bool) : pcCells (ps ++ [p]) = pcCells ps ++ pcRow p := by simp [pcCells]

theorem pcs_drop {l : List UInt8} {k : Nat} {c : UInt8} {t : List UInt8} (h : l.drop k = c :: t) :
    pcs k (l.drop k) = ((piece (l.drop k)).1, k, (piece (l.drop k)).2.1, gdB (l.drop k)) :: pcs (k + (piece (l.drop k)).2.1) (l.drop (k + (piece (l.drop k)).2.1)) := by
  conv => lhs; rw [h]
  rw [pcs_cons, ← h, List.drop_drop]

theorem pc_new (w : World) (o : Obj) (p : Nat × Nat × Nat × Bool) : ∀ (j : Nat) (u : Value), (pcRow p)[j]? = some u → ((w.alloc o).alloc (.cells #[.int .i32 (p.1 : Nat), .int .i64 (p.2.1 : Nat), .int .i64 (p.2.2.1 : Nat), .bool p.2.2.2] 50)).cell? ((⟨w.heap.size + 1, 0, none⟩ : Addr).add j) = some u := by
  intro j u hj
  have := RowAt.new (w.alloc o) #[.int .i32 (p.1 : Nat), .int .i64 (p.2.1 : Nat), .int .i64 (p.2.2.1 : Nat), .bool p.2.2.2] 50 (pcRow p) rfl
  rw [World.size_alloc] at this
  rw [add_at]
  exact this.cell hj

theorem pc_cell2 {w w2 : World} {base n : Nat} {v : Value} {xs : List Value} {o : Obj} {p : Nat × Nat × Nat × Bool} (hown : w.ownsRow base 50 4 v n xs)
    (hg : ((w.alloc (.cells #[.int .i32 (p.1 : Nat), .int .i64 (p.2.1 : Nat), .int .i64 (p.2.2.1 : Nat), .bool p.2.2.2] 50)).alloc o).grownBy w2 v.ownBlock) : w2.cell? ⟨w.heap.size, 2, none⟩ = some (.int .i64 (p.2.2.1 : Nat)) := by
  have h1 := RowAt.new w #[.int .i32 (p.1 : Nat), .int .i64 (p.2.1 : Nat), .int .i64 (p.2.2.1 : Nat), .bool p.2.2.2] 50 (pcRow p) rfl
  have h2 := h1.alloc o
  have h3 := h2.same (hg.block w.heap.size (by simp; omega) (fun e => by
    have := (hown.lt w.heap.size e.symm).2
    omega))
  exact h3.cell (j := 2) rfl

set_option maxRecDepth 100000 in
set_option maxHeartbeats 2000000 in
theorem pieces_any (B cap : Nat) (l : List UInt8) (w : World) (hl : l.length ≤ 2199023255552) (hcap : l.length ≤ cap) (hrow : RowAt w B (byteCells l)) :
    Calls Tryz.prog 17 #[.slice (some ⟨B, 0, none⟩) l.length cap] w fun e w' =>
      ∃ v, e = .returned v ∧ w'.ownsRow w.heap.size 50 4 v (pcs 0 l).length (pcCells (pcs 0 l)) ∧ Below w.heap.size w w' := by
  obtain ⟨i0, hi, hz0, hz1, hz2⟩ := info_parts infoPc
  have hB := hrow.lt
  have HR := Lib.hid hrow
  clear hrow
  go_enter Tryz.func17, Tryz.ntmps17
  go_wp2
  go_loopw [3, 4, 5, 6, 7, 8, 9] (fun v at_ _ _ _ _ _ wr => ∃ (k : Nat) (pre : List (Nat × Nat × Nat × Bool)), k ≤ l.length ∧ pre.length ≤ k ∧ at_ = .int .i64 k ∧ pcs 0 l = pre ++ pcs k (l.drop k) ∧ wr.ownsRow w.heap.size 50 4 v pre.length (pcCells pre) ∧ Below w.heap.size w wr)
    (fun _ at_ _ _ _ _ _ _ => l.length - (RowKit.intOf at_).toNat)
  case atStart => exact ⟨0, [], Nat.zero_le _, Nat.le_refl _, rfl, rfl, World.ownsRow_nil _ _ _ _, Below.refl _ _⟩
  case round =>
    obtain ⟨k, pre, hk, hpk, rfl, hst, hown, hbel⟩ := hrel
    have HS := Lib.hid hst
    have HO := Lib.hid hown
    have HB := Lib.hid hbel
    have HRw : Hid (RowAt wr B (byteCells l)) := HR.out.below hbel hB
    have hsz := hbel.size
    clear hst hown hbel
    by_cases hlt : k < l.length
    · obtain ⟨c, t, hct⟩ : ∃ c t, l.drop k = c :: t := by
        cases h : l.drop k with
        | nil => have := congrArg List.length h; simp at this; omega
        | cons c t => exact ⟨c, t, rfl⟩
      have hlen2 : (l.drop k).length = l.length - k := List.length_drop
      have hkI : (k : Int) < (l.length : Int) := by omega
      have hkc : (k : Int) ≤ (cap : Int) := by omega
      have HST := Lib.hid (pcs_drop hct)
      have hgd := good_any B k (l.length - k) (cap - k) (l.drop k) wr hlen2 (by omega) (by omega) (fun j x hj => HRw.out.cell (byteCells_at (by rw [List.getElem?_drop] at hj; exact hj)))
      have hpp := piece_parts c t
      have hps := piece_size c t
      rw [← hct] at hpp hps
      have hck : l[k]? = some c := by
        have := congrArg (fun x => x[0]?) hct
        simpa [List.getElem?_drop] using this
      have htk : ∀ j x, t[j]? = some x → l[k + (j + 1)]? = some x := fun j x hj => by
        have := congrArg (fun x => x[j + 1]?) hct
        simp only [List.getElem?_drop, List.getElem?_cons_succ] at this
        rw [this, hj]
      have hlt2 : t.length + 1 = l.length - k := by rw [← hlen2, hct]; rfl
      obtain ⟨r, sz, wh, hp⟩ : ∃ r sz wh, piece (l.drop k) = (r, sz, wh) := ⟨_, _, _, rfl⟩
      obtain ⟨gn, hgn⟩ : ∃ gn, gdN (l.drop k) = gn := ⟨_, rfl⟩
      obtain ⟨gb, hgb⟩ : ∃ gb, gdB (l.drop k) = gb := ⟨_, rfl⟩
      unfold goodV at hgd
      rw [hgn, hgb] at hgd
      rw [hp, hgb] at HST
      rw [hp, hgn, hgb] at hpp
      rw [hp] at hps
      simp only at hpp hps
      obtain ⟨hp1, hp2⟩ := hps
      have HCK := Lib.hid hck
      have HTK := Lib.hid htk
      clear hp hgn hgb hct hlen2 hck htk
      rcases hpp with ⟨hm, rfl, rfl, he⟩ | ⟨hm, rfl, rfl, rfl⟩ | ⟨hm, rfl, hgz, hsz2, htl, hr⟩
      · simp only [Prod.mk.injEq] at he
        obtain ⟨rfl, rfl, rfl⟩ := he
        clear hm
        go_wp2_with fail
        refine hgd.mono ?_
        clear hgd
        rintro e w1 ⟨rfl, nq, hq⟩
        have HO1 : Hid (w1.ownsRow w.heap.size 50 4 u3 pre.length (pcCells pre)) := by show World.ownsRow _ _ _ _ _ _ _; rw [← hq]; exact HO.out
        have HB1 : Hid (Below w.heap.size w w1) := by show Below _ _ _; rw [← hq]; exact Below.drewN HB.out _
        have HR1 : Hid (RowAt w1 B (byteCells l)) := by show RowAt _ _ _; rw [← hq]; exact HRw.out
        have hsz1 : w.heap.size ≤ w1.heap.size := HB1.out.size
        have hB1 : B < w1.heap.size := by omega
        clear hq
        go_wp2_with (at_builtin; refine wpList_append_own _ rfl _ _ 47 rfl w.heap.size 50 i0 (.agg #[.int .i32 0, .int .i64 0, .int .i64 0, .bool false]) 4 32 Tryz.underlying47 hi hz0 hz1 hz2 rfl (by decide) _ _ _ rfl ((HO1.out.alloc _).alloc _) ⟨w1.heap.size + 1, 0, none⟩ 1 1 (pcRow (65533, k, 1, false)) rfl rfl (by exact pc_new w1 _ (65533, k, 1, false)) (by simp [pcRow, Value.oneCell']) (by unfold maxLen; omega) (by omega) (by simp; omega) ?_; intro v' w2 hown' hgrow _; have hc2 : w2.cell? ⟨w1.heap.size, 2, none⟩ = some (.int .i64 1) := pc_cell2 (p := (65533, k, 1, false)) HO1.out hgrow)
        have HO2 := Lib.hid hown'
        have HB2 : Hid (Below w.heap.size w w2) := ((HB1.out.alloc hsz1 _).alloc (by simp; omega) _).grown hgrow (by simp; omega) (fun j ej => (HO1.out.lt j ej).1)
        clear hown' hgrow
        go_wp2
        go_roundw
        case rel =>
          refine ⟨k + 1, pre ++ [(65533, k, 1, false)], by omega, by simp; omega, by go_num, ?_, ?_, HB2.out⟩
          · rw [HS.out, HST.out]; simp
          · rw [pcCells_snoc, List.length_append]; exact HO2.out
        case measure => simp [RowKit.intOf]; omega
      · have hz : ((gn : Int) == 0) = false := beq_eq_false_iff_ne.2 (by omega)
        go_wp2_with fail
        refine hgd.mono ?_
        clear hgd
        rintro e w1 ⟨rfl, nq, hq⟩
        have HO1 : Hid (w1.ownsRow w.heap.size 50 4 u3 pre.length (pcCells pre)) := by show World.ownsRow _ _ _ _ _ _ _; rw [← hq]; exact HO.out
        have HB1 : Hid (Below w.heap.size w w1) := by show Below _ _ _; rw [← hq]; exact Below.drewN HB.out _
        have HR1 : Hid (RowAt w1 B (byteCells l)) := by show RowAt _ _ _; rw [← hq]; exact HRw.out
        have hsz1 : w.heap.size ≤ w1.heap.size := HB1.out.size
        have hB1 : B < w1.heap.size := by omega
        clear hq
        go_wp2_with (at_builtin; refine wpList_append_own _ rfl _ _ 47 rfl w.heap.size 50 i0 (.agg #[.int .i32 0, .int .i64 0, .int .i64 0, .bool false]) 4 32 Tryz.underlying47 hi hz0 hz1 hz2 rfl (by decide) _ _ _ rfl ((HO1.out.alloc _).alloc _) ⟨w1.heap.size + 1, 0, none⟩ 1 1 (pcRow (65533, k, gn, false)) rfl rfl (by exact pc_new w1 _ (65533, k, gn, false)) (by simp [pcRow, Value.oneCell']) (by unfold maxLen; omega) (by omega) (by simp; omega) ?_; intro v' w2 hown' hgrow _; have hc2 : w2.cell? ⟨w1.heap.size, 2, none⟩ = some (.int .i64 (gn : Nat)) := pc_cell2 (p := (65533, k, gn, false)) HO1.out hgrow)
        have HO2 := Lib.hid hown'
        have HB2 : Hid (Below w.heap.size w w2) := ((HB1.out.alloc hsz1 _).alloc (by simp; omega) _).grown hgrow (by simp; omega) (fun j ej => (HO1.out.lt j ej).1)
        clear hown' hgrow
        go_wp2
        go_roundw
        case rel =>
          refine ⟨k + gn, pre ++ [(65533, k, gn, false)], by omega, by simp; omega, by go_num, ?_, ?_, HB2.out⟩
          · rw [HS.out, HST.out]; simp
          · rw [pcCells_snoc, List.length_append]; exact HO2.out
        case measure => simp [RowKit.intOf]; omega
      · obtain ⟨m, hmm⟩ : ∃ m, moreN c.toNat = m := ⟨_, rfl⟩
        rw [hmm] at hm htl hr hgz hsz2
        have hc256 := c.toNat_lt
        have hcx := HRw.out.cell (byteCells_at HCK.out)
        have HMM := Lib.hid hmm
        have hc128 : m = 0 → c.toNat < 128 := fun h => by
          rcases more_cases c.toNat (by omega) with h' | h' | h' | h' | h' <;> omega
        have HC8 := Lib.hid hc128
        clear hmm hc128
        obtain ⟨z, hzz⟩ : ∃ z, m + 1 = z := ⟨_, rfl⟩
        obtain rfl : sz = z := by omega
        obtain rfl : gn = sz := by omega
        clear hgz hsz2
        have HRR := Lib.hid hr
        clear hr
        have hq0 : startR c.toNat m < 128 := by
          unfold startR
          split
          · exact HC8.out (by assumption)
          · have : c.toNat % modN m < modN m := Nat.mod_lt _ (by unfold modN; split <;> (try split) <;> omega)
            have : modN m ≤ 32 := by unfold modN; split <;> (try split) <;> omega
            omega
        have HQ0 := Lib.hid hq0
        clear hq0
        have hm4 : m = 0 ∨ m = 1 ∨ m = 2 ∨ m = 3 := by omega
        clear hm
        go_wp2_with fail
        refine hgd.mono ?_
        clear hgd
        rintro e w1 ⟨rfl, nq, hq⟩
        have HO1 : Hid (w1.ownsRow w.heap.size 50 4 u3 pre.length (pcCells pre)) := by show World.ownsRow _ _ _ _ _ _ _; rw [← hq]; exact HO.out
        have HB1 : Hid (Below w.heap.size w w1) := by show Below _ _ _; rw [← hq]; exact Below.drewN HB.out _
        have HR1 : Hid (RowAt w1 B (byteCells l)) := by show RowAt _ _ _; rw [← hq]; exact HRw.out
        have hsz1 : w.heap.size ≤ w1.heap.size := HB1.out.size
        have hB1 : B < w1.heap.size := by omega
        have hcx1 := HR1.out.cell (byteCells_at HCK.out)
        clear hq hcx
        rcases hm4 with rfl | rfl | rfl | rfl
        · subst hzz
          go_wp2_with fail
          go_loop [8, 9] (fun rv iv => ∃ i q : Nat, 1 ≤ i ∧ i ≤ 1 ∧ iv = .int .i64 i ∧ rv = .int .i32 q ∧ q < 128 * 64 ^ (i - 1) ∧ q = foldR (startR c.toNat 0) (t.take (i - 1))) (fun _ iv => 1 - (RowKit.intOf iv).toNat)
          case atStart => exact ⟨1, startR c.toNat 0, Nat.le_refl _, by omega, rfl, by simp [startR], by have := HQ0.out; omega, rfl⟩
          case round =>
            obtain ⟨i, q, hi1, hiz, rfl, rfl, hq, hqf⟩ := hrel
            have HQF := Lib.hid hqf
            clear hqf
            by_cases hiz2 : i < 1
            · exfalso; omega
            · obtain rfl : i = 1 := by omega
              have hrq : Hid (r = q) := by show r = q; rw [HRR.out, HQF.out]
              clear HQF HRR
              have hqr := hrq.out
              subst hqr
              clear hrq
              go_wp2_with (at_builtin; refine wpList_append_own _ rfl _ _ 47 rfl w.heap.size 50 i0 (.agg #[.int .i32 0, .int .i64 0, .int .i64 0, .bool false]) 4 32 Tryz.underlying47 hi hz0 hz1 hz2 rfl (by decide) _ _ _ rfl ((HO1.out.alloc _).alloc _) ⟨w1.heap.size + 1, 0, none⟩ 1 1 (pcRow (r, k, 1, true)) rfl rfl (by exact pc_new w1 _ (r, k, 1, true)) (by simp [pcRow, Value.oneCell']) (by unfold maxLen; omega) (by omega) (by simp; omega) ?_; intro v' w2 hown' hgrow _; have hc2 : w2.cell? ⟨w1.heap.size, 2, none⟩ = some (.int .i64 1) := pc_cell2 (p := (r, k, 1, true)) HO1.out hgrow)
              have HO2 := Lib.hid hown'
              have HB2 : Hid (Below w.heap.size w w2) := ((HB1.out.alloc hsz1 _).alloc (by simp; omega) _).grown hgrow (by simp; omega) (fun j ej => (HO1.out.lt j ej).1)
              clear hown' hgrow
              go_wp2
              go_roundw
              case rel =>
                refine ⟨k + 1, pre ++ [(r, k, 1, true)], by omega, by simp; omega, by go_num, ?_, ?_, HB2.out⟩
                · rw [HS.out, HST.out]; simp
                · rw [pcCells_snoc, List.length_append]; exact HO2.out
              case measure => simp [RowKit.intOf]; omega
        · subst hzz
          go_wp2_with fail
          go_loop [8, 9] (fun rv iv => ∃ i q : Nat, 1 ≤ i ∧ i ≤ 2 ∧ iv = .int .i64 i ∧ rv = .int .i32 q ∧ q < 128 * 64 ^ (i - 1) ∧ q = foldR (startR c.toNat 1) (t.take (i - 1))) (fun _ iv => 2 - (RowKit.intOf iv).toNat)
          case atStart => exact ⟨1, startR c.toNat 1, Nat.le_refl _, by omega, rfl, by simp [startR, modN], by have := HQ0.out; omega, rfl⟩
          case round =>
            obtain ⟨i, q, hi1, hiz, rfl, rfl, hq, hqf⟩ := hrel
            have HQF := Lib.hid hqf
            clear hqf
            by_cases hiz2 : i < 2
            · have hq2 : q < 600000 := by
                have h64 : 64 ^ (i - 1) ≤ 64 ^ 2 := Nat.pow_le_pow_right (by decide) (by omega)
                have : (64 : Nat) ^ 2 = 4096 := by decide
                omega
              have HQ := Lib.hid hq
              have hti : i - 1 < t.length := by omega
              obtain ⟨x, hx⟩ : ∃ x, t[i - 1] = x := ⟨_, rfl⟩
              have hx2 := HTK.out (i - 1) x (by rw [List.getElem?_eq_getElem hti, hx])
              rw [show k + (i - 1 + 1) = k + i by omega] at hx2
              have hcx2 := HR1.out.cell (byteCells_at hx2)
              have hxb := byte_le x
              have hki : (k : Int) + (i : Int) < (l.length : Int) := by omega
              have HTT : Hid (t.take i = t.take (i - 1) ++ [x]) := by
                show _ = _
                have := List.take_succ_eq_append_getElem hti
                rw [show i - 1 + 1 = i by omega] at this
                rw [this, hx]
              clear hx hx2 hq
              go_wp2_with fail
              go_round
              case rel =>
                refine ⟨i + 1, q * 64 + x.toNat % 64, by omega, by omega, by go_num, by go_num, ?_, ?_⟩
                · have h := HQ.out
                  have : 64 ^ (i + 1 - 1) = 64 ^ (i - 1) * 64 := by rw [← Nat.pow_succ]; congr 1; omega
                  omega
                · rw [show i + 1 - 1 = i by omega, HTT.out, foldR_snoc, HQF.out]
              case measure => simp [RowKit.intOf]; omega
            · obtain rfl : i = 2 := by omega
              have hrq : Hid (r = q) := by show r = q; rw [HRR.out, HQF.out]
              clear HQF HRR
              have hqr := hrq.out
              subst hqr
              clear hrq
              go_wp2_with (at_builtin; refine wpList_append_own _ rfl _ _ 47 rfl w.heap.size 50 i0 (.agg #[.int .i32 0, .int .i64 0, .int .i64 0, .bool false]) 4 32 Tryz.underlying47 hi hz0 hz1 hz2 rfl (by decide) _ _ _ rfl ((HO1.out.alloc _).alloc _) ⟨w1.heap.size + 1, 0, none⟩ 1 1 (pcRow (r, k, 2, true)) rfl rfl (by exact pc_new w1 _ (r, k, 2, true)) (by simp [pcRow, Value.oneCell']) (by unfold maxLen; omega) (by omega) (by simp; omega) ?_; intro v' w2 hown' hgrow _; have hc2 : w2.cell? ⟨w1.heap.size, 2, none⟩ = some (.int .i64 2) := pc_cell2 (p := (r, k, 2, true)) HO1.out hgrow)
              have HO2 := Lib.hid hown'
              have HB2 : Hid (Below w.heap.size w w2) := ((HB1.out.alloc hsz1 _).alloc (by simp; omega) _).grown hgrow (by simp; omega) (fun j ej => (HO1.out.lt j ej).1)
              clear hown' hgrow
              go_wp2
              go_roundw
              case rel =>
                refine ⟨k + 2, pre ++ [(r, k, 2, true)], by omega, by simp; omega, by go_num, ?_, ?_, HB2.out⟩
                · rw [HS.out, HST.out]; simp
                · rw [pcCells_snoc, List.length_append]; exact HO2.out
              case measure => simp [RowKit.intOf]; omega
        · subst hzz
          go_wp2_with fail
          go_loop [8, 9] (fun rv iv => ∃ i q : Nat, 1 ≤ i ∧ i ≤ 3 ∧ iv = .int .i64 i ∧ rv = .int .i32 q ∧ q < 128 * 64 ^ (i - 1) ∧ q = foldR (startR c.toNat 2) (t.take (i - 1))) (fun _ iv => 3 - (RowKit.intOf iv).toNat)
          case atStart => exact ⟨1, startR c.toNat 2, Nat.le_refl _, by omega, rfl, by simp [startR, modN], by have := HQ0.out; omega, rfl⟩
          case round =>
            obtain ⟨i, q, hi1, hiz, rfl, rfl, hq, hqf⟩ := hrel
            have HQF := Lib.hid hqf
            clear hqf
            by_cases hiz2 : i < 3
            · have hq2 : q < 600000 := by
                have h64 : 64 ^ (i - 1) ≤ 64 ^ 2 := Nat.pow_le_pow_right (by decide) (by omega)
                have : (64 : Nat) ^ 2 = 4096 := by decide
                omega
              have HQ := Lib.hid hq
              have hti : i - 1 < t.length := by omega
              obtain ⟨x, hx⟩ : ∃ x, t[i - 1] = x := ⟨_, rfl⟩
              have hx2 := HTK.out (i - 1) x (by rw [List.getElem?_eq_getElem hti, hx])
              rw [show k + (i - 1 + 1) = k + i by omega] at hx2
              have hcx2 := HR1.out.cell (byteCells_at hx2)
              have hxb := byte_le x
              have hki : (k : Int) + (i : Int) < (l.length : Int) := by omega
              have HTT : Hid (t.take i = t.take (i - 1) ++ [x]) := by
                show _ = _
                have := List.take_succ_eq_append_getElem hti
                rw [show i - 1 + 1 = i by omega] at this
                rw [this, hx]
              clear hx hx2 hq
              go_wp2_with fail
              go_round
              case rel =>
                refine ⟨i + 1, q * 64 + x.toNat % 64, by omega, by omega, by go_num, by go_num, ?_, ?_⟩
                · have h := HQ.out
                  have : 64 ^ (i + 1 - 1) = 64 ^ (i - 1) * 64 := by rw [← Nat.pow_succ]; congr 1; omega
                  omega
                · rw [show i + 1 - 1 = i by omega, HTT.out, foldR_snoc, HQF.out]
              case measure => simp [RowKit.intOf]; omega
            · obtain rfl : i = 3 := by omega
              have hrq : Hid (r = q) := by show r = q; rw [HRR.out, HQF.out]
              clear HQF HRR
              have hqr := hrq.out
              subst hqr
              clear hrq
              go_wp2_with (at_builtin; refine wpList_append_own _ rfl _ _ 47 rfl w.heap.size 50 i0 (.agg #[.int .i32 0, .int .i64 0, .int .i64 0, .bool false]) 4 32 Tryz.underlying47 hi hz0 hz1 hz2 rfl (by decide) _ _ _ rfl ((HO1.out.alloc _).alloc _) ⟨w1.heap.size + 1, 0, none⟩ 1 1 (pcRow (r, k, 3, true)) rfl rfl (by exact pc_new w1 _ (r, k, 3, true)) (by simp [pcRow, Value.oneCell']) (by unfold maxLen; omega) (by omega) (by simp; omega) ?_; intro v' w2 hown' hgrow _; have hc2 : w2.cell? ⟨w1.heap.size, 2, none⟩ = some (.int .i64 3) := pc_cell2 (p := (r, k, 3, true)) HO1.out hgrow)
              have HO2 := Lib.hid hown'
              have HB2 : Hid (Below w.heap.size w w2) := ((HB1.out.alloc hsz1 _).alloc (by simp; omega) _).grown hgrow (by simp; omega) (fun j ej => (HO1.out.lt j ej).1)
              clear hown' hgrow
              go_wp2
              go_roundw
              case rel =>
                refine ⟨k + 3, pre ++ [(r, k, 3, true)], by omega, by simp; omega, by go_num, ?_, ?_, HB2.out⟩
                · rw [HS.out, HST.out]; simp
                · rw [pcCells_snoc, List.length_append]; exact HO2.out
              case measure => simp [RowKit.intOf]; omega
        · subst hzz
          go_wp2_with fail
          go_loop [8, 9] (fun rv iv => ∃ i q : Nat, 1 ≤ i ∧ i ≤ 4 ∧ iv = .int .i64 i ∧ rv = .int .i32 q ∧ q < 128 * 64 ^ (i - 1) ∧ q = foldR (startR c.toNat 3) (t.take (i - 1))) (fun _ iv => 4 - (RowKit.intOf iv).toNat)
          case atStart => exact ⟨1, startR c.toNat 3, Nat.le_refl _, by omega, rfl, by simp [startR, modN], by have := HQ0.out; omega, rfl⟩
          case round =>
            obtain ⟨i, q, hi1, hiz, rfl, rfl, hq, hqf⟩ := hrel
            have HQF := Lib.hid hqf
            clear hqf
            by_cases hiz2 : i < 4
            · have hq2 : q < 600000 := by
                have h64 : 64 ^ (i - 1) ≤ 64 ^ 2 := Nat.pow_le_pow_right (by decide) (by omega)
                have : (64 : Nat) ^ 2 = 4096 := by decide
                omega
              have HQ := Lib.hid hq
              have hti : i - 1 < t.length := by omega
              obtain ⟨x, hx⟩ : ∃ x, t[i - 1] = x := ⟨_, rfl⟩
              have hx2 := HTK.out (i - 1) x (by rw [List.getElem?_eq_getElem hti, hx])
              rw [show k + (i - 1 + 1) = k + i by omega] at hx2
              have hcx2 := HR1.out.cell (byteCells_at hx2)
              have hxb := byte_le x
              have hki : (k : Int) + (i : Int) < (l.length : Int) := by omega
              have HTT : Hid (t.take i = t.take (i - 1) ++ [x]) := by
                show _ = _
                have := List.take_succ_eq_append_getElem hti
                rw [show i - 1 + 1 = i by omega] at this
                rw [this, hx]
              clear hx hx2 hq
              go_wp2_with fail
              go_round
              case rel =>
                refine ⟨i + 1, q * 64 + x.toNat % 64, by omega, by omega, by go_num, by go_num, ?_, ?_⟩
                · have h := HQ.out
                  have : 64 ^ (i + 1 - 1) = 64 ^ (i - 1) * 64 := by rw [← Nat.pow_succ]; congr 1; omega
                  omega
                · rw [show i + 1 - 1 = i by omega, HTT.out, foldR_snoc, HQF.out]
              case measure => simp [RowKit.intOf]; omega
            · obtain rfl : i = 4 := by omega
              have hrq : Hid (r = q) := by show r = q; rw [HRR.out, HQF.out]
              clear HQF HRR
              have hqr := hrq.out
              subst hqr
              clear hrq
              go_wp2_with (at_builtin; refine wpList_append_own _ rfl _ _ 47 rfl w.heap.size 50 i0 (.agg #[.int .i32 0, .int .i64 0, .int .i64 0, .bool false]) 4 32 Tryz.underlying47 hi hz0 hz1 hz2 rfl (by decide) _ _ _ rfl ((HO1.out.alloc _).alloc _) ⟨w1.heap.size + 1, 0, none⟩ 1 1 (pcRow (r, k, 4, true)) rfl rfl (by exact pc_new w1 _ (r, k, 4, true)) (by simp [pcRow, Value.oneCell']) (by unfold maxLen; omega) (by omega) (by simp; omega) ?_; intro v' w2 hown' hgrow _; have hc2 : w2.cell? ⟨w1.heap.size, 2, none⟩ = some (.int .i64 4) := pc_cell2 (p := (r, k, 4, true)) HO1.out hgrow)
              have HO2 := Lib.hid hown'
              have HB2 : Hid (Below w.heap.size w w2) := ((HB1.out.alloc hsz1 _).alloc (by simp; omega) _).grown hgrow (by simp; omega) (fun j ej => (HO1.out.lt j ej).1)
              clear hown' hgrow
              go_wp2
              go_roundw
              case rel =>
                refine ⟨k + 4, pre ++ [(r, k, 4, true)], by omega, by simp; omega, by go_num, ?_, ?_, HB2.out⟩
                · rw [HS.out, HST.out]; simp
                · rw [pcCells_snoc, List.length_append]; exact HO2.out
              case measure => simp [RowKit.intOf]; omega
    · obtain rfl : k = l.length := by omega
      go_wp2
      go_ret
      refine ⟨_, rfl, ?_, HB.out⟩
      rw [HS.out, List.drop_length, pcs_nil, List.append_nil]
      exact HO.out

end Go.Proofs.YtabagfhnkdhjdaaGreatDoor
/- The reference's Runes, Bytes, Text, Mend. -/
set_option linter.unusedVariables false
set_option maxRecDepth 100000
namespace Go.Proofs.YtabagfhnkdhjdaaGreatDoor
open Go.RowKit Go.Lib

theorem pcRow_len (p : Nat × Nat × Nat × Bool) : (pcRow p).length = 4 := rfl
theorem pcCells_at : ∀ {ps : List (Nat × Nat × Nat × Bool)} {k : Nat} {p : Nat × Nat × Nat × Bool}, ps[k]? = some p → ∀ (i : Nat) (u : Value), (pcRow p)[i]? = some u → (pcCells ps)[k * 4 + i]? = some u
  | [], k, p, h, _, _, _ => by simp at h
  | q :: ps, 0, p, h, i, u, hi => by
    simp at h
    subst h
    have e : pcCells (q :: ps) = pcRow q ++ pcCells ps := by simp [pcCells]
    have hl : i < (pcRow q).length := (List.getElem?_eq_some_iff.1 hi).1
    rw [e, Nat.zero_mul, Nat.zero_add, List.getElem?_append_left hl, hi]
  | q :: ps, k + 1, p, h, i, u, hi => by
    have e : pcCells (q :: ps) = pcRow q ++ pcCells ps := by simp [pcCells]
    rw [e, List.getElem?_append_right (by rw [pcRow_len]; omega), pcRow_len]
    rw [show (k + 1) * 4 + i - 4 = k * 4 + i by omega]
    exact pcCells_at (by simpa using h) i u hi

theorem one_new (w : World) (o : Obj) (x : Value) (e : TypeId) : ∀ (j : Nat) (u : Value), [x][j]? = some u → ((w.alloc o).alloc (.cells #[x] e)).cell? ((⟨w.heap.size + 1, 0, none⟩ : Addr).add j) = some u := by
  intro j u hj
  have := RowAt.new (w.alloc o) #[x] e [x] rfl
  rw [World.size_alloc] at this
  rw [add_at]
  exact this.cell hj

set_option maxRecDepth 100000 in
set_option maxHeartbeats 1000000 in
theorem rrunes_any (B cap : Nat) (l : List UInt8) (w : World) (hl : l.length ≤ 2199023255552) (hcap : l.length ≤ cap) (hrow : RowAt w B (byteCells l)) :
    Calls Tryz.prog 28 #[.slice (some ⟨B, 0, none⟩) l.length cap] w fun e w' =>
      ∃ v, e = .returned v ∧ w'.ownsRow w.heap.size 21 1 v (runes l).length (runeCells (runes l)) ∧ Below w.heap.size w w' := by
  obtain ⟨i0, hi, hz0, hz1, hz2⟩ := info_parts infoR
  have hpc := pieces_any B cap l w hl hcap hrow
  have hpr := pcs_runes l.length 0 l (Nat.le_refl _)
  have hrl := runes_len_le l.length l (Nat.le_refl _)
  obtain ⟨ps, hps⟩ : ∃ ps, pcs 0 l = ps := ⟨_, rfl⟩
  rw [hps] at hpc hpr
  have hpl : ps.length = (runes l).length := by rw [← hpr, List.length_map]
  have HPR := Lib.hid hpr
  have HPL := Lib.hid hpl
  have hpl2 : ps.length ≤ 2199023255552 := by omega
  clear hps hpr hrow hpl hrl
  go_enter Tryz.func28, Tryz.ntmps28
  go_wp2_with fail
  refine hpc.mono ?_
  clear hpc
  rintro e w1 ⟨v, rfl, hown, hb⟩
  have HB := Lib.hid hb
  have hsz := hb.size
  have hsh : (v = .slice none 0 0 ∧ ps = []) ∨ ∃ g cap', v = .slice (some ⟨g, 0, none⟩) ps.length cap' ∧ g < w1.heap.size ∧ RowAt w1 g (pcCells ps) := by
    rcases hown.2 with ⟨h1, h2⟩ | ⟨g, cap', cur, h1, h2, h4, _, _, _, h8⟩
    · exact .inl ⟨h1, List.length_eq_zero_iff.1 h2⟩
    · subst h1
      have h5 : RowAt w1 g (pcCells ps) := ⟨cur, _, (0, 0), h4, by rw [hown.1]; exact h8, .inl rfl⟩
      exact .inr ⟨g, cap', rfl, h5.lt, h5⟩
  clear hown hb
  rcases hsh with ⟨rfl, hnil⟩ | ⟨g, cap', rfl, hg, hrw⟩
  · subst hnil
    have HN : Hid (runes l = []) := by show _ = _; rw [← HPR.out]; rfl
    go_wp2_with fail
    go_loopw [3, 9, 5] (fun v i _ wr => v = .slice none 0 0 ∧ i = .int .i64 0 ∧ wr = w1) (fun _ _ _ _ => 0)
    case atStart => exact ⟨rfl, rfl, rfl⟩
    case round =>
      obtain ⟨rfl, rfl, rfl⟩ := hrel
      go_wp2_with fail
      go_ret
      refine ⟨_, rfl, ?_, HB.out⟩
      rw [HN.out]
      exact World.ownsRow_nil _ _ _ _
  · have HW := Lib.hid hrw
    clear hrw
    go_wp2_with fail
    go_loopw [3, 9, 5] (fun v i _ wr => ∃ k : Nat, k ≤ ps.length ∧ i = .int .i64 k ∧ wr.ownsRow w1.heap.size 21 1 v k (runeCells ((ps.take k).map (·.1))) ∧ Below w1.heap.size w1 wr) (fun _ i _ _ => ps.length - (RowKit.intOf i).toNat)
    case atStart => exact ⟨0, Nat.zero_le _, rfl, World.ownsRow_nil _ _ _ _, Below.refl _ _⟩
    case round =>
      obtain ⟨k, hk, rfl, hown, hbel⟩ := hrel
      have HO := Lib.hid hown
      have HBl := Lib.hid hbel
      have hsz2 := hbel.size
      clear hown hbel
      by_cases hlt : k < ps.length
      · obtain ⟨⟨r, a1, s1, b1⟩, hp⟩ : ∃ p, ps[k]? = some p := ⟨_, List.getElem?_eq_getElem hlt⟩
        have hltI : (k : Int) < (ps.length : Int) := by omega
        have hrw2 := HW.out.below HBl.out hg
        have c0 := hrw2.cell (pcCells_at hp 0 _ rfl)
        rw [Nat.add_zero] at c0
        have c1 := hrw2.cell (pcCells_at hp 1 _ rfl)
        have c2 := hrw2.cell (pcCells_at hp 2 _ rfl)
        have c3 := hrw2.cell (pcCells_at hp 3 _ rfl)
        simp only at c0 c1 c2 c3
        have HT : Hid (runeCells ((ps.take (k + 1)).map (·.1)) = runeCells ((ps.take k).map (·.1)) ++ [.int .i32 (r : Nat)]) := by
          show _ = _
          rw [List.take_add_one, hp]
          simp [runeCells]
        clear hrw2 hp
        go_wp2_with (at_builtin; refine wpList_append_own _ rfl _ _ 61 rfl w1.heap.size 21 i0 (.int .i32 0) 1 4 Tryz.underlying61 hi hz0 hz1 hz2 rfl (by decide) _ _ _ rfl ((HO.out.alloc _).alloc _) ⟨wr.heap.size + 1, 0, none⟩ 1 1 [.int .i32 (r : Nat)] rfl rfl (by exact one_new wr _ _ _) (by simp [Value.oneCell']) (by unfold maxLen; omega) (by omega) (by simp; omega) ?_; intro v' w2 hown' hgrow _)
        have HO2 := Lib.hid hown'
        have HB2 : Hid (Below w1.heap.size w1 w2) := ((HBl.out.alloc hsz2 _).alloc (by simp; omega) _).grown hgrow (by simp; omega) (fun j ej => (HO.out.lt j ej).1)
        clear hown' hgrow
        go_wp2_with fail
        go_roundw
        case rel => exact ⟨k + 1, by omega, by go_num, by rw [HT.out]; exact HO2.out, HB2.out⟩
        case measure => simp [RowKit.intOf]; omega
      · obtain rfl : k = ps.length := by omega
        go_wp2_with fail
        go_ret
        refine ⟨_, rfl, ?_, HB.out.trans (HBl.out.mono hsz)⟩
        rw [← HPR.out, List.length_map]
        have h := HO.out
        rw [List.take_length] at h
        exact ownsRow_base h hsz

end Go.Proofs.YtabagfhnkdhjdaaGreatDoor
/- The reference's Bytes, Text, Mend. -/
set_option linter.unusedVariables false
set_option maxRecDepth 100000
namespace Go.Proofs.YtabagfhnkdhjdaaGreatDoor
open Go.RowKit Go.Lib

theorem rchar_int (n : Int) (w : World) (h : (0 ≤ n ∧ n < 55296) ∨ (57343 < n ∧ n ≤ 1114111)) :
    Calls Tryz.prog 106 #[.int .i32 n] w fun e w' => e = .returned (.bool true) ∧ w = w' := by
  rcases h with ⟨h1, h2⟩ | ⟨h1, h2⟩
  · have h3 : n ≤ 1114111 := by omega
    go_enter Tryz.func106, Tryz.ntmps106
    go_wp2
    go_ret
    exact ⟨rfl, rfl⟩
  · have h3 : 0 ≤ n := by omega
    have h4 : ¬ n < 55296 := by omega
    go_enter Tryz.func106, Tryz.ntmps106
    go_wp2
    go_ret
    exact ⟨rfl, rfl⟩
theorem rchar_any (r : Nat) (w : World) (h : isCh r) :
    Calls Tryz.prog 106 #[.int .i32 (r : Nat)] w fun e w' => e = .returned (.bool true) ∧ w = w' :=
  rchar_int (r : Int) w (by unfold isCh at h; omega)

theorem rwidth_int (n k : Int) (w : World) (h : (0 ≤ n ∧ n < 55296) ∨ (57343 < n ∧ n ≤ 1114111)) (hk : (n < 128 ∧ k = 1) ∨ (128 ≤ n ∧ n < 2048 ∧ k = 2) ∨ (2048 ≤ n ∧ n < 65536 ∧ k = 3) ∨ (65536 ≤ n ∧ k = 4)) :
    Calls Tryz.prog 107 #[.int .i32 n] w fun e w' => e = .returned (.int .i64 k) ∧ w = w' := by
  have hc := rchar_int n w h
  clear h
  rcases hk with ⟨h1, rfl⟩ | ⟨h1, h2, rfl⟩ | ⟨h1, h2, rfl⟩ | ⟨h1, rfl⟩
  · go_enter Tryz.func107, Tryz.ntmps107
    go_wp2_with (go_at_call 106; refine hc.mono ?_; rintro e w' ⟨rfl, rfl⟩)
    go_ret
    exact ⟨rfl, rfl⟩
  · have h3 : ¬ n < 128 := by omega
    go_enter Tryz.func107, Tryz.ntmps107
    go_wp2_with (go_at_call 106; refine hc.mono ?_; rintro e w' ⟨rfl, rfl⟩)
    go_ret
    exact ⟨rfl, rfl⟩
  · have h3 : ¬ n < 128 := by omega
    have h4 : ¬ n < 2048 := by omega
    go_enter Tryz.func107, Tryz.ntmps107
    go_wp2_with (go_at_call 106; refine hc.mono ?_; rintro e w' ⟨rfl, rfl⟩)
    go_ret
    exact ⟨rfl, rfl⟩
  · have h3 : ¬ n < 128 := by omega
    have h4 : ¬ n < 2048 := by omega
    have h5 : ¬ n < 65536 := by omega
    go_enter Tryz.func107, Tryz.ntmps107
    go_wp2_with (go_at_call 106; refine hc.mono ?_; rintro e w' ⟨rfl, rfl⟩)
    go_ret
    exact ⟨rfl, rfl⟩
theorem rwidth_any (r : Nat) (w : World) (h : isCh r) :
    Calls Tryz.prog 107 #[.int .i32 (r : Nat)] w fun e w' => e = .returned (.int .i64 (if r < 128 then 1 else if r < 2048 then 2 else if r < 65536 then 3 else 4)) ∧ w = w' := by
  refine rwidth_int (r : Int) _ w (by unfold isCh at h; omega) ?_
  by_cases h1 : r < 128
  · left; exact ⟨by omega, by rw [if_pos h1]⟩
  · right
    rw [if_neg h1]
    by_cases h2 : r < 2048
    · left; exact ⟨by omega, by omega, by rw [if_pos h2]⟩
    · right
      rw [if_neg h2]
      by_cases h3 : r < 65536
      · left; exact ⟨by omega, by omega, by rw [if_pos h3]⟩
      · right; exact ⟨by omega, by rw [if_neg h3]⟩

theorem cells1 {r : Nat} (h : r < 128) : byteCells (enc r) = [.int .u8 (r : Int)] := by
  rw [enc_low h]
  have a := bt_toNat r (by omega)
  show [Value.int .u8 ((bt r).toNat : Int)] = _
  rw [a]
theorem cells2 {r : Nat} (h1 : ¬ r < 128) (h2 : r < 2048) : byteCells (enc r) = [.int .u8 (192 + (r : Int) / 64), .int .u8 (128 + (r : Int) % 64)] := by
  unfold enc
  rw [if_neg h1, if_pos h2]
  have a := bt_toNat (192 + r / 64) (by omega)
  have b := bt_toNat (128 + r % 64) (by omega)
  show [Value.int .u8 ((bt _).toNat : Int), Value.int .u8 ((bt _).toNat : Int)] = _
  rw [a, b, show ((192 + r / 64 : Nat) : Int) = 192 + (r : Int) / 64 by omega, show ((128 + r % 64 : Nat) : Int) = 128 + (r : Int) % 64 by omega]
theorem cells3 {r : Nat} (h1 : ¬ r < 128) (h2 : ¬ r < 2048) (h3 : r < 65536) : byteCells (enc r) = [.int .u8 (224 + (r : Int) / 4096), .int .u8 (128 + (r : Int) / 64 % 64), .int .u8 (128 + (r : Int) % 64)] := by
  unfold enc
  rw [if_neg h1, if_neg h2, if_pos h3]
  have a := bt_toNat (224 + r / 4096) (by omega)
  have b := bt_toNat (128 + r / 64 % 64) (by omega)
  have c := bt_toNat (128 + r % 64) (by omega)
  show [Value.int .u8 ((bt _).toNat : Int), Value.int .u8 ((bt _).toNat : Int), Value.int .u8 ((bt _).toNat : Int)] = _
  rw [a, b, c, show ((224 + r / 4096 : Nat) : Int) = 224 + (r : Int) / 4096 by omega, show ((128 + r / 64 % 64 : Nat) : Int) = 128 + (r : Int) / 64 % 64 by omega, show ((128 + r % 64 : Nat) : Int) = 128 + (r : Int) % 64 by omega]
theorem cells4 {r : Nat} (h1 : ¬ r < 128) (h2 : ¬ r < 2048) (h3 : ¬ r < 65536) (h4 : r ≤ 1114111) : byteCells (enc r) = [.int .u8 (240 + (r : Int) / 262144), .int .u8 (128 + (r : Int) / 4096 % 64), .int .u8 (128 + (r : Int) / 64 % 64), .int .u8 (128 + (r : Int) % 64)] := by
  unfold enc
  rw [if_neg h1, if_neg h2, if_neg h3]
  have a := bt_toNat (240 + r / 262144) (by omega)
  have b := bt_toNat (128 + r / 4096 % 64) (by omega)
  have c := bt_toNat (128 + r / 64 % 64) (by omega)
  have d := bt_toNat (128 + r % 64) (by omega)
  show [Value.int .u8 ((bt _).toNat : Int), Value.int .u8 ((bt _).toNat : Int), Value.int .u8 ((bt _).toNat : Int), Value.int .u8 ((bt _).toNat : Int)] = _
  rw [a, b, c, d, show ((240 + r / 262144 : Nat) : Int) = 240 + (r : Int) / 262144 by omega, show ((128 + r / 4096 % 64 : Nat) : Int) = 128 + (r : Int) / 4096 % 64 by omega, show ((128 + r / 64 % 64 : Nat) : Int) = 128 + (r : Int) / 64 % 64 by omega, show ((128 + r % 64 : Nat) : Int) = 128 + (r : Int) % 64 by omega]

/-- What bytesOf hands back: a new row. -/
def NewRow (w : World) (xs : List Value) (e : Ending) (w' : World) : Prop :=
  e = .returned (.slice (some ⟨w.heap.size, 0, none⟩) xs.length xs.length) ∧ w.alloc (.cells xs.toArray 5) = w'
theorem newRow_of {w : World} {xs ys : List Value} (h : xs = ys) : NewRow w xs (.returned (.slice (some ⟨w.heap.size, 0, none⟩) ys.length ys.length)) (w.alloc (.cells ys.toArray 5)) := by subst h; exact ⟨rfl, rfl⟩

set_option maxRecDepth 100000 in
set_option maxHeartbeats 1000000 in
theorem rbytesOf_any (r : Nat) (w : World) (h : isCh r) :
    Calls Tryz.prog 90 #[.int .i32 (r : Nat)] w (NewRow w (byteCells (enc r))) := by
  have hc := rchar_any r w h
  have hwd := rwidth_any r w h
  have hr4 : r ≤ 1114111 := by unfold isCh at h; omega
  clear h
  by_cases h1 : r < 128
  · rw [if_pos h1] at hwd
    have HX := Lib.hid (cells1 h1)
    have h1I : (r : Int) < 128 := by omega
    go_enter Tryz.func90, Tryz.ntmps90
    go_wp2_with (first | (go_at_call 106; refine hc.mono ?_; rintro e w' ⟨rfl, rfl⟩) | (go_at_call 107; refine hwd.mono ?_; rintro e w' ⟨rfl, rfl⟩))
    go_ret
    exact newRow_of HX.out
  · rw [if_neg h1] at hwd
    by_cases h2 : r < 2048
    · rw [if_pos h2] at hwd
      have HX := Lib.hid (cells2 h1 h2)
      have h1I : (r : Int) < 2048 := by omega
      go_enter Tryz.func90, Tryz.ntmps90
      go_wp2_with (first | (go_at_call 106; refine hc.mono ?_; rintro e w' ⟨rfl, rfl⟩) | (go_at_call 107; refine hwd.mono ?_; rintro e w' ⟨rfl, rfl⟩))
      go_ret
      exact newRow_of HX.out
    · rw [if_neg h2] at hwd
      by_cases h3 : r < 65536
      · rw [if_pos h3] at hwd
        have HX := Lib.hid (cells3 h1 h2 h3)
        have h1I : (r : Int) < 65536 := by omega
        go_enter Tryz.func90, Tryz.ntmps90
        go_wp2_with (first | (go_at_call 106; refine hc.mono ?_; rintro e w' ⟨rfl, rfl⟩) | (go_at_call 107; refine hwd.mono ?_; rintro e w' ⟨rfl, rfl⟩))
        go_ret
        exact newRow_of HX.out
      · rw [if_neg h3] at hwd
        have HX := Lib.hid (cells4 h1 h2 h3 hr4)
        go_enter Tryz.func90, Tryz.ntmps90
        go_wp2_with (first | (go_at_call 106; refine hc.mono ?_; rintro e w' ⟨rfl, rfl⟩) | (go_at_call 107; refine hwd.mono ?_; rintro e w' ⟨rfl, rfl⟩))
        go_ret
        exact newRow_of HX.out

/-- A slice value that holds runes. -/
def RunesAt (w : World) (v : Value) (rs : List Nat) : Prop := (v = .slice none 0 0 ∧ rs = []) ∨ ∃ g cap, v = .slice (some ⟨g, 0, none⟩) rs.length cap ∧ RowAt w g (runeCells rs)
theorem RunesAt.of_own {w : World} {base : Nat} {v : Value} {rs : List Nat} (h : w.ownsRow base 21 1 v rs.length (runeCells rs)) : RunesAt w v rs := by
  have h0 := h
  rcases h.2 with ⟨h1, h2⟩ | ⟨g, cap', cur, h1, h2, h4, _, _, _, h8⟩
  · exact .inl ⟨h1, List.length_eq_zero_iff.1 h2⟩
  · subst h1
    exact .inr ⟨g, cap', rfl, RowAt.owned h0⟩

set_option maxRecDepth 100000 in
set_option maxHeartbeats 1000000 in
theorem rbytes_any (rs : List Nat) (v : Value) (w : World) (hch : ∀ r ∈ rs, isCh r) (hl : rs.length ≤ 8796093022207) (h : RunesAt w v rs) :
    Calls Tryz.prog 65 #[v] w fun e w' =>
      ∃ v', e = .returned v' ∧ w'.ownsRow w.heap.size 5 1 v' (encAll rs).length (byteCells (encAll rs)) ∧ Below w.heap.size w w' := by
  obtain ⟨i0, hi, hz0, hz1, hz2⟩ := info_parts infoB
  rcases h with ⟨rfl, rfl⟩ | ⟨g, cap, rfl, hrow⟩
  · go_enter Tryz.func65, Tryz.ntmps65
    go_wp2_with fail
    go_loopw [3, 8, 5] (fun v i _ wr => v = .slice none 0 0 ∧ i = .int .i64 0 ∧ wr = w) (fun _ _ _ _ => 0)
    case atStart => exact ⟨rfl, rfl, rfl⟩
    case round =>
      obtain ⟨rfl, rfl, rfl⟩ := hrel
      go_wp2_with fail
      go_ret
      exact ⟨_, rfl, World.ownsRow_nil _ _ _ _, Below.refl _ _⟩
  · have hg := hrow.lt
    have HW := Lib.hid hrow
    have HCH := Lib.hid hch
    clear hrow hch
    go_enter Tryz.func65, Tryz.ntmps65
    go_wp2_with fail
    go_loopw [3, 8, 5] (fun v i _ wr => ∃ k : Nat, k ≤ rs.length ∧ i = .int .i64 k ∧ wr.ownsRow w.heap.size 5 1 v (encAll (rs.take k)).length (byteCells (encAll (rs.take k))) ∧ Below w.heap.size w wr) (fun _ i _ _ => rs.length - (RowKit.intOf i).toNat)
    case atStart => exact ⟨0, Nat.zero_le _, rfl, World.ownsRow_nil _ _ _ _, Below.refl _ _⟩
    case round =>
      obtain ⟨k, hk, rfl, hown, hbel⟩ := hrel
      have HO := Lib.hid hown
      have HBl := Lib.hid hbel
      have hsz2 := hbel.size
      clear hown hbel
      by_cases hlt : k < rs.length
      · obtain ⟨r, hp⟩ : ∃ p, rs[k]? = some p := ⟨_, List.getElem?_eq_getElem hlt⟩
        have hltI : (k : Int) < (rs.length : Int) := by omega
        have hrc := HCH.out r (List.mem_of_getElem? hp)
        have c0 := (HW.out.below HBl.out hg).cell (runeCells_at hp)
        have hbo := fun W => rbytesOf_any r W hrc
        have hel := enc_len r
        have hal := encAll_len (rs.take k)
        have htl : (rs.take k).length ≤ k := List.length_take_le _ _
        have HT : Hid (encAll (rs.take (k + 1)) = encAll (rs.take k) ++ enc r) := by
          show _ = _
          rw [List.take_add_one, hp]
          simp [encAll]
        obtain ⟨E, hE⟩ : ∃ E, enc r = E := ⟨_, rfl⟩
        rw [hE] at hbo hel HT
        obtain ⟨P, hP⟩ : ∃ P, encAll (rs.take k) = P := ⟨_, rfl⟩
        rw [hP] at HO hal HT
        clear hp hrc hE hP
        have hbl := byteCells_len E
        have HBL := Lib.hid hbl
        clear hbl
        go_wp2_with fail
        refine (hbo _).mono ?_
        clear hbo
        rintro e w1 ⟨rfl, rfl⟩
        rw [HBL.out]
        have HNW := Lib.hid (RowAt.new wr (byteCells E).toArray 5 (byteCells E) (by simp))
        go_wp2_with (at_builtin; refine wpList_append_own _ rfl _ _ 29 rfl w.heap.size 5 i0 (.int .u8 0) 1 1 Tryz.underlying29 hi hz0 hz1 hz2 rfl (by decide) _ _ _ rfl (HO.out.alloc _) ⟨wr.heap.size, 0, none⟩ E.length E.length (byteCells E) rfl (by rw [byteCells_len, Nat.mul_one]) (fun j u hj => by rw [add_at]; exact HNW.out.cell hj) (byteCells_one E) (by unfold maxLen; omega) (by omega) (by simp; omega) ?_; intro v' w2 hown' hgrow _)
        have HO2 := Lib.hid hown'
        have HB2 : Hid (Below w.heap.size w w2) := (HBl.out.alloc hsz2 _).grown hgrow (by simp; omega) (fun j ej => (HO.out.lt j ej).1)
        clear hown' hgrow
        go_wp2_with fail
        go_roundw
        case rel =>
          refine ⟨k + 1, by omega, by go_num, ?_, HB2.out⟩
          rw [HT.out, List.length_append]
          have := HO2.out
          simpa [byteCells] using this
        case measure => simp [RowKit.intOf]; omega
      · obtain rfl : k = rs.length := by omega
        go_wp2_with fail
        go_ret
        refine ⟨_, rfl, ?_, HBl.out⟩
        have h := HO.out
        rw [List.take_length] at h
        exact h

theorem bytes_string {P : Program} (W : World) (src dst e : TypeId) (base : Nat) (v : Value) (l : List UInt8) (hs : P.underlying src = some (.slice e)) (he : P.underlying e = some (.int .u8)) (hd : P.underlying dst = some .string)
    (hown : W.ownsRow base e 1 v l.length (byteCells l)) : (convert src dst v).run P W = .ok (.string ⟨l.toArray⟩) W := by
  rcases hown.2 with ⟨rfl, h0⟩ | ⟨g, cap, cur, rfl, _⟩
  · have : l = [] := List.length_eq_zero_iff.1 h0
    subst this
    rw [run_convert_bytes_string W src dst e _ 0 0 hs he hd]
    simp [Conv.bytesToString]
    rfl
  · exact (RowAt.owned hown).string src dst e l.length cap rfl hs he hd

set_option maxRecDepth 100000 in
set_option maxHeartbeats 1000000 in
theorem rtext_any (rs : List Nat) (v : Value) (w : World) (hch : ∀ r ∈ rs, isCh r) (hl : rs.length ≤ 8796093022207) (h : RunesAt w v rs) :
    Calls Tryz.prog 27 #[v] w fun e w' => e = .returned (.string ⟨(encAll rs).toArray⟩) ∧ Below w.heap.size w w' := by
  have hb := rbytes_any rs v w hch hl h
  clear h
  go_enter Tryz.func27, Tryz.ntmps27
  go_wp2_with fail
  refine hb.mono ?_
  clear hb
  rintro e w1 ⟨v', rfl, hown, hb1⟩
  have hback := bytes_string (P := Tryz.prog) w1 29 9 5 _ v' (encAll rs) Tryz.underlying29 Tryz.underlying5 Tryz.underlying9 hown
  have HB1 := Lib.hid hb1
  clear hown hb1
  go_wp2_with fail
  go_ret
  exact ⟨rfl, HB1.out⟩

set_option maxRecDepth 100000 in
set_option maxHeartbeats 1000000 in
theorem rmend_any (s : ByteArray) (w : World) (hs : s.size ≤ 2199023255552) :
    Calls Tryz.prog 9 #[.string s] w fun e w' => e = .returned (.string ⟨(mend s.data.toList).toArray⟩) ∧ Below w.heap.size w w' := by
  have hconv := run_bytes_of_string (P := Tryz.prog) w 9 29 5 s Tryz.underlying9 Tryz.underlying29 Tryz.underlying5
  have hrw := RowAt.bytes w s (grownCap w s.size 0 5) 5
  have hcap := grownCap_ge w s.size 0 5
  have hb0 : Below w.heap.size w (w.alloc (.cells (bytesRow s (grownCap w s.size 0 5)) 5 ((bytesRow s (grownCap w s.size 0 5)).size, (bytesRow s (grownCap w s.size 0 5)).size + 1))).drew := ((Below.refl _ w).alloc (Nat.le_refl _) _).drew
  generalize grownCap w s.size 0 5 = cap at hconv hrw hcap hb0
  generalize bytesRow s cap = C at hconv hrw hb0
  obtain ⟨W1, hW1⟩ : ∃ W1, (w.alloc (.cells C 5 (C.size, C.size + 1))).drew = W1 := ⟨_, rfl⟩
  have hrw1 : RowAt W1 w.heap.size (byteCells s.data.toList) := by rw [← hW1]; exact hrw.drew
  rw [hW1] at hb0
  have hr := rrunes_any w.heap.size cap s.data.toList W1 (by rw [← size_eq]; exact hs) (by rw [← size_eq]; omega) hrw1
  rw [← size_eq] at hr
  have hW2 : (w.drew.alloc (.cells C 5 (C.size, C.size + 1))) = W1 := hW1
  have HB0 := Lib.hid hb0
  have hrl := runes_len_le s.data.toList.length s.data.toList (Nat.le_refl _)
  rw [← size_eq] at hrl
  have HRL := Lib.hid hrl
  clear hrw hrw1 hb0 hrl
  go_enter Tryz.func9, Tryz.ntmps9
  go_wp2_with fail
  refine hr.mono ?_
  clear hr
  rintro e w2 ⟨v, rfl, hown, hb2⟩
  have ht := fun W => rtext_any (runes s.data.toList) v W (runes_ch _) (by have := HRL.out; omega)
  have hra := RunesAt.of_own hown
  have HB2 := Lib.hid hb2
  clear hown hb2
  go_wp2_with fail
  refine (ht _ hra).mono ?_
  clear ht
  rintro e w3 ⟨rfl, hb3⟩
  have HB3 := Lib.hid hb3
  clear hb3
  go_wp2_with fail
  go_ret
  exact ⟨rfl, HB0.out.trans ((HB2.out.trans (HB3.out.mono HB2.out.size)).mono HB0.out.size)⟩

end Go.Proofs.YtabagfhnkdhjdaaGreatDoor
