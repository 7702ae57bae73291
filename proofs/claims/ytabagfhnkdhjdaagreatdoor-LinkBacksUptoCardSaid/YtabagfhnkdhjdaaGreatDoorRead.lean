/- utf.bounds, utf.read: the rune at the beginning of some bytes. -/
import Derived.Test.YtabagfhnkdhjdaaGreatDoorScheme
import Derived.Test.YtabagfhnkdhjdaaGreatDoorUtf
import Derived.BigQuiet
import Derived.Deep.QuietTactic
set_option linter.unusedVariables false
set_option maxRecDepth 100000
namespace Go.Proofs.YtabagfhnkdhjdaaGreatDoor
open Go.RowKit Go.Lib

set_option maxRecDepth 100000 in
theorem bounds_low (c : UInt8) (w : World) (h : c.toNat < 128) :
    Calls Tryz.prog 116 #[.int .u8 c.toNat] w fun e w' => e = .returned (.tuple #[.int .i64 0, .int .u8 0, .int .u8 0]) ∧ w = w' := by
  go_enter Tryz.func116, Tryz.ntmps116
  go_wp2
  go_ret3
  exact ⟨rfl, rfl⟩

set_option maxRecDepth 100000 in
set_option maxHeartbeats 1000000 in
theorem bounds_bad (c : UInt8) (w : World) (h : moreN c.toNat = 9) :
    Calls Tryz.prog 116 #[.int .u8 c.toNat] w fun e w' => e = .returned (.tuple #[.int .i64 (-1), .int .u8 0, .int .u8 0]) ∧ w = w' := by
  have hc := c.toNat_lt
  have h2 : (128 ≤ c.toNat ∧ c.toNat < 194) ∨ 245 ≤ c.toNat := by
    unfold moreN at h
    repeat' split at h
    all_goals omega
  clear h
  rcases h2 with ⟨h1, h2⟩ | h1
  all_goals
    go_enter Tryz.func116, Tryz.ntmps116
    go_wp2
    go_ret3
    exact ⟨rfl, rfl⟩

set_option maxRecDepth 100000 in
set_option maxHeartbeats 1000000 in
theorem bounds_good (c : UInt8) (w : World) (m lo hi : Nat) (hm : moreN c.toNat = m) (hlo : loN c.toNat = lo) (hhi : hiN c.toNat = hi) (h1 : 1 ≤ m) (h3 : m ≤ 3) :
    Calls Tryz.prog 116 #[.int .u8 c.toNat] w fun e w' => e = .returned (.tuple #[.int .i64 m, .int .u8 lo, .int .u8 hi]) ∧ w = w' := by
  have hc := c.toNat_lt
  have hk : (194 ≤ c.toNat ∧ c.toNat ≤ 223 ∧ m = 1 ∧ lo = 128 ∧ hi = 191) ∨ (224 ≤ c.toNat ∧ c.toNat ≤ 224 ∧ m = 2 ∧ lo = 160 ∧ hi = 191) ∨ (237 ≤ c.toNat ∧ c.toNat ≤ 237 ∧ m = 2 ∧ lo = 128 ∧ hi = 159) ∨
      (225 ≤ c.toNat ∧ c.toNat ≤ 236 ∧ m = 2 ∧ lo = 128 ∧ hi = 191) ∨ (238 ≤ c.toNat ∧ c.toNat ≤ 239 ∧ m = 2 ∧ lo = 128 ∧ hi = 191) ∨ (240 ≤ c.toNat ∧ c.toNat ≤ 240 ∧ m = 3 ∧ lo = 144 ∧ hi = 191) ∨
      (241 ≤ c.toNat ∧ c.toNat ≤ 243 ∧ m = 3 ∧ lo = 128 ∧ hi = 191) ∨ (244 ≤ c.toNat ∧ c.toNat ≤ 244 ∧ m = 3 ∧ lo = 128 ∧ hi = 143) := by
    unfold moreN at hm
    unfold loN at hlo
    unfold hiN at hhi
    by_cases a : c.toNat = 224
    · simp [a] at hm hlo hhi; omega
    · by_cases b : c.toNat = 237
      · simp [b] at hm hlo hhi; omega
      · by_cases d : c.toNat = 240
        · simp [d] at hm hlo hhi; omega
        · by_cases f : c.toNat = 244
          · simp [f] at hm hlo hhi; omega
          · rw [if_neg a, if_neg d] at hlo
            rw [if_neg b, if_neg f] at hhi
            repeat' split at hm
            all_goals omega
  clear hm hlo hhi h1 h3
  rcases hk with ⟨h1, h2, rfl, rfl, rfl⟩ | ⟨h1, h2, rfl, rfl, rfl⟩ | ⟨h1, h2, rfl, rfl, rfl⟩ | ⟨h1, h2, rfl, rfl, rfl⟩ | ⟨h1, h2, rfl, rfl, rfl⟩ | ⟨h1, h2, rfl, rfl, rfl⟩ | ⟨h1, h2, rfl, rfl, rfl⟩ | ⟨h1, h2, rfl, rfl, rfl⟩
  all_goals
    go_enter Tryz.func116, Tryz.ntmps116
    go_wp2
    go_ret3
    exact ⟨rfl, rfl⟩

theorem i32_and31 (x : Int) (h₀ : 0 ≤ x) (h₁ : x < 2147483648) : bits .and .i32 x 31 = x % 32 := bits_mask .i32 31 (by decide) wraps_i32 5 (by decide) x h₀ (by omega)
theorem i32_and15 (x : Int) (h₀ : 0 ≤ x) (h₁ : x < 2147483648) : bits .and .i32 x 15 = x % 16 := bits_mask .i32 31 (by decide) wraps_i32 4 (by decide) x h₀ (by omega)
theorem i32_and7 (x : Int) (h₀ : 0 ≤ x) (h₁ : x < 2147483648) : bits .and .i32 x 7 = x % 8 := bits_mask .i32 31 (by decide) wraps_i32 3 (by decide) x h₀ (by omega)

/-- What read hands back. -/
def pieceV (l : List UInt8) : Value := .tuple #[.int .i32 (piece l).1, .int .i64 (piece l).2.1, .int .i64 (piece l).2.2]

theorem ret3_of {p : Nat × Nat × Nat} {a b c : Nat} (h : p = (a, b, c)) : Ending.returned (.tuple #[.int .i32 a, .int .i64 b, .int .i64 c]) = Ending.returned (.tuple #[.int .i32 p.1, .int .i64 p.2.1, .int .i64 p.2.2]) := by rw [h]

theorem readGo_nil (n i r lo hi : Nat) (hn : 0 < n) : readGo n i r lo hi [] = (65533, i, 2) := by
  cases n with
  | zero => omega
  | succ n => rfl
theorem readGo_bad (n i r lo hi : Nat) (x : UInt8) (t : List UInt8) (hn : 0 < n) (h : x.toNat < lo ∨ hi < x.toNat) : readGo n i r lo hi (x :: t) = (65533, i, 1) := by
  cases n with
  | zero => omega
  | succ n => rw [readGo, if_pos h]
theorem readGo_good (n i r lo hi : Nat) (x : UInt8) (t : List UInt8) (hn : 0 < n) (h : ¬ (x.toNat < lo ∨ hi < x.toNat)) : readGo n i r lo hi (x :: t) = readGo (n - 1) (i + 1) (r * 64 + x.toNat % 64) 128 191 t := by
  cases n with
  | zero => omega
  | succ n => rw [readGo, if_neg h]; rfl
theorem i32_or64 (q x : Int) (h0 : 0 ≤ q) (h1 : q < 1000000) (h2 : 0 ≤ x) : bits .or .i32 (q * 64) (x % 64) = q * 64 + x % 64 :=
  i32_or6 (q * 64) (x % 64) (by omega) (by omega) (by omega) (by omega) (by omega)

set_option maxHeartbeats 4000000 in
theorem read_any (B o n cap : Nat) (l : List UInt8) (w : World) (hl : l.length = n) (hn : 0 < n) (hn2 : n ≤ 140737488355328)
    (hcell : ∀ j x, l[j]? = some x → w.cell? ⟨B, o + j, none⟩ = some (.int .u8 x.toNat)) :
    Calls Tryz.prog 102 #[.slice (some ⟨B, o, none⟩) n cap] w fun e w' => e = .returned (pieceV l) ∧ ∃ nq, w.drewN nq = w' := by
  cases l with
  | nil => simp at hl; omega
  | cons c t =>
    have hnI : (0 : Int) < (n : Int) := by omega
    have hc0 := hcell 0 c rfl
    rw [Nat.add_zero] at hc0
    have HC := Lib.hid hcell
    have HL := Lib.hid hl
    clear hcell hl
    have hc := c.toNat_lt
    rcases more_cases c.toNat (by omega) with ⟨h, h2⟩ | h | h
    · have HM := Lib.hid h
      clear h
      go_enter Tryz.func102, Tryz.ntmps102
      go_wp2_with (go_at_call 116; refine (bounds_low c _ h2).mono ?_; rintro e w' ⟨rfl, rfl⟩)
      go_ret3
      refine ⟨?_, 0, rfl⟩
      unfold pieceV
      rw [piece_cons, if_pos HM.out]
      rfl
    · have HM := Lib.hid h
      clear h
      go_enter Tryz.func102, Tryz.ntmps102
      go_wp2_with (go_at_call 116; refine (bounds_bad c _ HM.out).mono ?_; rintro e w' ⟨rfl, rfl⟩)
      go_ret3
      refine ⟨?_, 0, rfl⟩
      unfold pieceV
      rw [piece_cons, if_neg (by rw [HM.out]; decide), if_pos HM.out]
      rfl
    · obtain ⟨m, lo, hi, hm, hlo, hhi⟩ : ∃ m lo hi, moreN c.toNat = m ∧ loN c.toNat = lo ∧ hiN c.toNat = hi := ⟨_, _, _, rfl, rfl, rfl⟩
      have hm13 : m = 1 ∨ m = 2 ∨ m = 3 := by omega
      have hlh := lo_hi c.toNat
      rw [hlo, hhi] at hlh
      have hlob : lo ≤ 160 := by rw [← hlo]; unfold loN; repeat' split
                                 all_goals omega
      have hbc := bounds_good c w m lo hi hm hlo hhi (by omega) (by omega)
      have HP : Hid (piece (c :: t) = readGo m 1 (c.toNat % modN m) lo hi t) := by
        show _ = _
        rw [piece_cons, if_neg (by omega), if_neg (by omega), hm, hlo, hhi]
      clear h hm hlo hhi
      have a31 := i32_and31 (c.toNat : Int) (by omega) (by omega)
      have a15 := i32_and15 (c.toNat : Int) (by omega) (by omega)
      have a7 := i32_and7 (c.toNat : Int) (by omega) (by omega)
      rcases hm13 with rfl | rfl | rfl
      · go_enter Tryz.func102, Tryz.ntmps102
        go_wp2_with (go_at_call 116; refine hbc.mono ?_; rintro e w' ⟨rfl, rfl⟩)
        go_quiet (fail)
        go_wp2
        clear a31 a15 a7 hbc hc0
        go_loop [6, 7, 8, 9] (fun lo' hi' r i => ∃ k q lo hi : Nat, 1 ≤ k ∧ k ≤ 1 + 1 ∧ k ≤ n ∧ q < 64 ^ k ∧ lo ≤ 160 ∧ hi ≤ 191 ∧ i = .int .i64 k ∧ r = .int .i32 q ∧ lo' = .int .u8 lo ∧ hi' = .int .u8 hi ∧ piece (c :: t) = readGo (1 + 1 - k) k q lo hi (t.drop (k - 1))) (fun _ _ _ i => 1 + 1 - (intOf i).toNat)
        case atStart =>
          refine ⟨1, c.toNat % modN 1, lo, hi, Nat.le_refl _, by omega, by omega, ?_, hlob, hlh.2, rfl, ?_, rfl, rfl, HP.out⟩
          · show c.toNat % modN 1 < 64; simp [modN]; omega
          · simp [modN]
        case round =>
          obtain ⟨k, q, lo1, hi1, hk1, hkm, hkn, hq, hlo1, hhi1, rfl, rfl, rfl, rfl, hrel2⟩ := hrel
          have HR := Lib.hid hrel2
          have HQ := Lib.hid hq
          clear hrel2 HP hq
          by_cases hle : k ≤ 1
          · have hq2 : q < 1000000 := by
              have h := HQ.out
              have h64 : 64 ^ k ≤ 64 ^ 3 := Nat.pow_le_pow_right (by decide) (by omega)
              exact Nat.lt_of_lt_of_le h (Nat.le_trans h64 (by decide))
            by_cases hkn2 : k = n
            · have hkb : ((k : Int) == (n : Int)) = true := beq_iff_eq.2 (by omega)
              have HE : Hid (t.drop (k - 1) = []) := List.drop_of_length_le (by have := HL.out; simp at this; omega)
              have HK := Lib.hid hkn2
              clear hkn2
              go_wp2
              go_ret3
              refine ⟨?_, nq, rfl⟩
              rw [HE.out, readGo_nil _ _ _ _ _ (by omega)] at HR
              exact ret3_of HR.out
            · have hkb : ((k : Int) == (n : Int)) = false := beq_eq_false_iff_ne.2 (by omega)
              have hkI : (k : Int) < (n : Int) := by omega
              have hlt : k - 1 < t.length := by have := HL.out; simp at this; omega
              obtain ⟨x, hx⟩ : ∃ x, t[k - 1] = x := ⟨_, rfl⟩
              have hxk : (c :: t)[k]? = some x := by
                rw [show k = (k - 1) + 1 by omega, List.getElem?_cons_succ, List.getElem?_eq_getElem hlt, hx]
              have hcx := HC.out k x hxk
              have HE : Hid (t.drop (k - 1) = x :: t.drop k) := by
                show _ = _
                rw [List.drop_eq_getElem_cons hlt, hx, show k - 1 + 1 = k by omega]
              have hxb := byte_le x
              clear hx hxk hlt hkn2
              by_cases hb : x.toNat < lo1 ∨ hi1 < x.toNat
              · have HB := Lib.hid hb
                by_cases hb1 : (x.toNat : Int) < lo1
                · clear hb
                  go_wp2
                  go_ret3
                  refine ⟨?_, nq, rfl⟩
                  rw [HE.out, readGo_bad _ _ _ _ _ _ _ (by omega) HB.out] at HR
                  exact ret3_of HR.out
                · have hb2 : (hi1 : Int) < x.toNat := by omega
                  clear hb
                  go_wp2
                  go_ret3
                  refine ⟨?_, nq, rfl⟩
                  rw [HE.out, readGo_bad _ _ _ _ _ _ _ (by omega) HB.out] at HR
                  exact ret3_of HR.out
              · have HB := Lib.hid hb
                have hb1 : ¬ (x.toNat : Int) < lo1 := by omega
                have hb2 : ¬ (hi1 : Int) < x.toNat := by omega
                have hor := i32_or64 q x.toNat (by omega) (by omega) (by omega)
                clear hb
                go_wp2
                go_round
                case rel =>
                  refine ⟨k + 1, q * 64 + x.toNat % 64, 128, 191, by omega, by omega, by omega, ?_, by omega, by omega, by go_num, by go_num, rfl, rfl, ?_⟩
                  · have h := HQ.out
                    rw [Nat.pow_succ]; omega
                  · rw [HR.out, HE.out, readGo_good _ _ _ _ _ _ _ (by omega) HB.out]
                    rw [show 1 + 1 - k - 1 = 1 + 1 - (k + 1) by omega, show k + 1 - 1 = k by omega]
                case measure => simp [intOf]; omega
          · obtain rfl : k = 1 + 1 := by omega
            go_wp2
            go_ret3
            refine ⟨?_, nq, rfl⟩
            rw [Nat.sub_self] at HR
            exact ret3_of HR.out
      · go_enter Tryz.func102, Tryz.ntmps102
        go_wp2_with (go_at_call 116; refine hbc.mono ?_; rintro e w' ⟨rfl, rfl⟩)
        go_quiet (fail)
        go_wp2
        clear a31 a15 a7 hbc hc0
        go_loop [6, 7, 8, 9] (fun lo' hi' r i => ∃ k q lo hi : Nat, 1 ≤ k ∧ k ≤ 2 + 1 ∧ k ≤ n ∧ q < 64 ^ k ∧ lo ≤ 160 ∧ hi ≤ 191 ∧ i = .int .i64 k ∧ r = .int .i32 q ∧ lo' = .int .u8 lo ∧ hi' = .int .u8 hi ∧ piece (c :: t) = readGo (2 + 1 - k) k q lo hi (t.drop (k - 1))) (fun _ _ _ i => 2 + 1 - (intOf i).toNat)
        case atStart =>
          refine ⟨1, c.toNat % modN 2, lo, hi, Nat.le_refl _, by omega, by omega, ?_, hlob, hlh.2, rfl, ?_, rfl, rfl, HP.out⟩
          · show c.toNat % modN 2 < 64; simp [modN]; omega
          · simp [modN]
        case round =>
          obtain ⟨k, q, lo1, hi1, hk1, hkm, hkn, hq, hlo1, hhi1, rfl, rfl, rfl, rfl, hrel2⟩ := hrel
          have HR := Lib.hid hrel2
          have HQ := Lib.hid hq
          clear hrel2 HP hq
          by_cases hle : k ≤ 2
          · have hq2 : q < 1000000 := by
              have h := HQ.out
              have h64 : 64 ^ k ≤ 64 ^ 3 := Nat.pow_le_pow_right (by decide) (by omega)
              exact Nat.lt_of_lt_of_le h (Nat.le_trans h64 (by decide))
            by_cases hkn2 : k = n
            · have hkb : ((k : Int) == (n : Int)) = true := beq_iff_eq.2 (by omega)
              have HE : Hid (t.drop (k - 1) = []) := List.drop_of_length_le (by have := HL.out; simp at this; omega)
              have HK := Lib.hid hkn2
              clear hkn2
              go_wp2
              go_ret3
              refine ⟨?_, nq, rfl⟩
              rw [HE.out, readGo_nil _ _ _ _ _ (by omega)] at HR
              exact ret3_of HR.out
            · have hkb : ((k : Int) == (n : Int)) = false := beq_eq_false_iff_ne.2 (by omega)
              have hkI : (k : Int) < (n : Int) := by omega
              have hlt : k - 1 < t.length := by have := HL.out; simp at this; omega
              obtain ⟨x, hx⟩ : ∃ x, t[k - 1] = x := ⟨_, rfl⟩
              have hxk : (c :: t)[k]? = some x := by
                rw [show k = (k - 1) + 1 by omega, List.getElem?_cons_succ, List.getElem?_eq_getElem hlt, hx]
              have hcx := HC.out k x hxk
              have HE : Hid (t.drop (k - 1) = x :: t.drop k) := by
                show _ = _
                rw [List.drop_eq_getElem_cons hlt, hx, show k - 1 + 1 = k by omega]
              have hxb := byte_le x
              clear hx hxk hlt hkn2
              by_cases hb : x.toNat < lo1 ∨ hi1 < x.toNat
              · have HB := Lib.hid hb
                by_cases hb1 : (x.toNat : Int) < lo1
                · clear hb
                  go_wp2
                  go_ret3
                  refine ⟨?_, nq, rfl⟩
                  rw [HE.out, readGo_bad _ _ _ _ _ _ _ (by omega) HB.out] at HR
                  exact ret3_of HR.out
                · have hb2 : (hi1 : Int) < x.toNat := by omega
                  clear hb
                  go_wp2
                  go_ret3
                  refine ⟨?_, nq, rfl⟩
                  rw [HE.out, readGo_bad _ _ _ _ _ _ _ (by omega) HB.out] at HR
                  exact ret3_of HR.out
              · have HB := Lib.hid hb
                have hb1 : ¬ (x.toNat : Int) < lo1 := by omega
                have hb2 : ¬ (hi1 : Int) < x.toNat := by omega
                have hor := i32_or64 q x.toNat (by omega) (by omega) (by omega)
                clear hb
                go_wp2
                go_round
                case rel =>
                  refine ⟨k + 1, q * 64 + x.toNat % 64, 128, 191, by omega, by omega, by omega, ?_, by omega, by omega, by go_num, by go_num, rfl, rfl, ?_⟩
                  · have h := HQ.out
                    rw [Nat.pow_succ]; omega
                  · rw [HR.out, HE.out, readGo_good _ _ _ _ _ _ _ (by omega) HB.out]
                    rw [show 2 + 1 - k - 1 = 2 + 1 - (k + 1) by omega, show k + 1 - 1 = k by omega]
                case measure => simp [intOf]; omega
          · obtain rfl : k = 2 + 1 := by omega
            go_wp2
            go_ret3
            refine ⟨?_, nq, rfl⟩
            rw [Nat.sub_self] at HR
            exact ret3_of HR.out
      · go_enter Tryz.func102, Tryz.ntmps102
        go_wp2_with (go_at_call 116; refine hbc.mono ?_; rintro e w' ⟨rfl, rfl⟩)
        go_quiet (fail)
        go_wp2
        clear a31 a15 a7 hbc hc0
        go_loop [6, 7, 8, 9] (fun lo' hi' r i => ∃ k q lo hi : Nat, 1 ≤ k ∧ k ≤ 3 + 1 ∧ k ≤ n ∧ q < 64 ^ k ∧ lo ≤ 160 ∧ hi ≤ 191 ∧ i = .int .i64 k ∧ r = .int .i32 q ∧ lo' = .int .u8 lo ∧ hi' = .int .u8 hi ∧ piece (c :: t) = readGo (3 + 1 - k) k q lo hi (t.drop (k - 1))) (fun _ _ _ i => 3 + 1 - (intOf i).toNat)
        case atStart =>
          refine ⟨1, c.toNat % modN 3, lo, hi, Nat.le_refl _, by omega, by omega, ?_, hlob, hlh.2, rfl, ?_, rfl, rfl, HP.out⟩
          · show c.toNat % modN 3 < 64; simp [modN]; omega
          · simp [modN]
        case round =>
          obtain ⟨k, q, lo1, hi1, hk1, hkm, hkn, hq, hlo1, hhi1, rfl, rfl, rfl, rfl, hrel2⟩ := hrel
          have HR := Lib.hid hrel2
          have HQ := Lib.hid hq
          clear hrel2 HP hq
          by_cases hle : k ≤ 3
          · have hq2 : q < 1000000 := by
              have h := HQ.out
              have h64 : 64 ^ k ≤ 64 ^ 3 := Nat.pow_le_pow_right (by decide) (by omega)
              exact Nat.lt_of_lt_of_le h (Nat.le_trans h64 (by decide))
            by_cases hkn2 : k = n
            · have hkb : ((k : Int) == (n : Int)) = true := beq_iff_eq.2 (by omega)
              have HE : Hid (t.drop (k - 1) = []) := List.drop_of_length_le (by have := HL.out; simp at this; omega)
              have HK := Lib.hid hkn2
              clear hkn2
              go_wp2
              go_ret3
              refine ⟨?_, nq, rfl⟩
              rw [HE.out, readGo_nil _ _ _ _ _ (by omega)] at HR
              exact ret3_of HR.out
            · have hkb : ((k : Int) == (n : Int)) = false := beq_eq_false_iff_ne.2 (by omega)
              have hkI : (k : Int) < (n : Int) := by omega
              have hlt : k - 1 < t.length := by have := HL.out; simp at this; omega
              obtain ⟨x, hx⟩ : ∃ x, t[k - 1] = x := ⟨_, rfl⟩
              have hxk : (c :: t)[k]? = some x := by
                rw [show k = (k - 1) + 1 by omega, List.getElem?_cons_succ, List.getElem?_eq_getElem hlt, hx]
              have hcx := HC.out k x hxk
              have HE : Hid (t.drop (k - 1) = x :: t.drop k) := by
                show _ = _
                rw [List.drop_eq_getElem_cons hlt, hx, show k - 1 + 1 = k by omega]
              have hxb := byte_le x
              clear hx hxk hlt hkn2
              by_cases hb : x.toNat < lo1 ∨ hi1 < x.toNat
              · have HB := Lib.hid hb
                by_cases hb1 : (x.toNat : Int) < lo1
                · clear hb
                  go_wp2
                  go_ret3
                  refine ⟨?_, nq, rfl⟩
                  rw [HE.out, readGo_bad _ _ _ _ _ _ _ (by omega) HB.out] at HR
                  exact ret3_of HR.out
                · have hb2 : (hi1 : Int) < x.toNat := by omega
                  clear hb
                  go_wp2
                  go_ret3
                  refine ⟨?_, nq, rfl⟩
                  rw [HE.out, readGo_bad _ _ _ _ _ _ _ (by omega) HB.out] at HR
                  exact ret3_of HR.out
              · have HB := Lib.hid hb
                have hb1 : ¬ (x.toNat : Int) < lo1 := by omega
                have hb2 : ¬ (hi1 : Int) < x.toNat := by omega
                have hor := i32_or64 q x.toNat (by omega) (by omega) (by omega)
                clear hb
                go_wp2
                go_round
                case rel =>
                  refine ⟨k + 1, q * 64 + x.toNat % 64, 128, 191, by omega, by omega, by omega, ?_, by omega, by omega, by go_num, by go_num, rfl, rfl, ?_⟩
                  · have h := HQ.out
                    rw [Nat.pow_succ]; omega
                  · rw [HR.out, HE.out, readGo_good _ _ _ _ _ _ _ (by omega) HB.out]
                    rw [show 3 + 1 - k - 1 = 3 + 1 - (k + 1) by omega, show k + 1 - 1 = k by omega]
                case measure => simp [intOf]; omega
          · obtain rfl : k = 3 + 1 := by omega
            go_wp2
            go_ret3
            refine ⟨?_, nq, rfl⟩
            rw [Nat.sub_self] at HR
            exact ret3_of HR.out
end Go.Proofs.YtabagfhnkdhjdaaGreatDoor
