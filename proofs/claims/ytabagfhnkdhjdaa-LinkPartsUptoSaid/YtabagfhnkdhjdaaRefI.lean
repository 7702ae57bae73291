/- The reference's Mended and Join. -/
import Derived.Test.YtabagfhnkdhjdaaMended
import Derived.Test.YtabagfhnkdhjdaaRefE
set_option linter.unusedVariables false
set_option maxRecDepth 100000
namespace Go.Proofs.Ytabagfhnkdhjdaa
open Go.RowKit Go.Lib

def lk9 (a b c d f : ByteArray) (x y z u : Bool) : List Value := [.string a, .string b, .string c, .string d, .string f, .bool x, .bool y, .bool z, .bool u]

/-- What the walk of Mended keeps: the copy in block L, the result's in block R. -/
def MdAt (w wx : World) (L R : Nat) (row : List Value) : Prop := RowAt wx L row ∧ RowAt wx R zeroLk ∧ Below w.heap.size w wx
theorem MdAt.later {w wx wy : World} {L R : Nat} {row : List Value} (h : MdAt w wx L R row) (hb : Below wx.heap.size wx wy) : MdAt w wy L R row :=
  ⟨h.1.below hb h.1.lt, h.2.1.below hb h.2.1.lt, h.2.2.trans (hb.mono h.2.2.size)⟩
theorem MdAt.drew {w wx : World} {L R : Nat} {row : List Value} (h : MdAt w wx L R row) : MdAt w wx.drew L R row := ⟨h.1.drew, h.2.1.drew, h.2.2.drew⟩
theorem MdAt.set {w wx : World} {L R : Nat} {row : List Value} (h : MdAt w wx L R row) (hL : w.heap.size ≤ L) (hR : L < R) (j : Nat) (v : Value) : MdAt w (wx.setCell ⟨L, j, none⟩ v) L R (row.set j v) :=
  ⟨h.1.set j v, h.2.1.other (by simp; omega) v, h.2.2.setCell (p := ⟨L, j, none⟩) hL v⟩

set_option maxRecDepth 100000 in
set_option maxHeartbeats 8000000 in
theorem rmended_any (a b c d f : ByteArray) (x y z u : Bool) (w : World) (hsz : ∀ s ∈ [a, b, c, d, f], s.size ≤ 2199023255552) :
    Calls Try.prog 11 #[.agg #[.string a, .string b, .string c, .string d, .string f, .bool x, .bool y, .bool z, .bool u]] w fun e w' =>
      e = .returned (.agg #[.string (mendS a), .string (mendS b), .string (mendS c), .string (mendS d), .string (mendS f), .bool x, .bool y, .bool z, .bool u]) ∧ Below w.heap.size w w' := by
  have hma := fun w => rmend_any a w (hsz a (by simp))
  have hmb := fun w => rmend_any b w (hsz b (by simp))
  have hmc := fun w => rmend_any c w (hsz c (by simp))
  have hmd := fun w => rmend_any d w (hsz d (by simp))
  have hmf := fun w => rmend_any f w (hsz f (by simp))
  obtain ⟨A, eA⟩ : ∃ A, mendS a = A := ⟨_, rfl⟩
  obtain ⟨B, eB⟩ : ∃ A, mendS b = A := ⟨_, rfl⟩
  obtain ⟨C, eC⟩ : ∃ A, mendS c = A := ⟨_, rfl⟩
  obtain ⟨D, eD⟩ : ∃ A, mendS d = A := ⟨_, rfl⟩
  obtain ⟨F, eF⟩ : ∃ A, mendS f = A := ⟨_, rfl⟩
  have ha : ∀ w, Calls Try.prog 26 #[.string a] w fun e w' => e = .returned (.string A) ∧ Below w.heap.size w w' := by rw [← eA]; exact hma
  have hb : ∀ w, Calls Try.prog 26 #[.string b] w fun e w' => e = .returned (.string B) ∧ Below w.heap.size w w' := by rw [← eB]; exact hmb
  have hc : ∀ w, Calls Try.prog 26 #[.string c] w fun e w' => e = .returned (.string C) ∧ Below w.heap.size w w' := by rw [← eC]; exact hmc
  have hd : ∀ w, Calls Try.prog 26 #[.string d] w fun e w' => e = .returned (.string D) ∧ Below w.heap.size w w' := by rw [← eD]; exact hmd
  have hf : ∀ w, Calls Try.prog 26 #[.string f] w fun e w' => e = .returned (.string F) ∧ Below w.heap.size w w' := by rw [← eF]; exact hmf
  rw [eA, eB, eC, eD, eF]
  clear hma hmb hmc hmd hmf hsz eA eB eC eD eF
  have h0 : MdAt w ((w.alloc (.cells #[.string a, .string b, .string c, .string d, .string f, .bool x, .bool y, .bool z, .bool u] 23)).alloc (.cells #[.string ⟨#[]⟩, .string ⟨#[]⟩, .string ⟨#[]⟩, .string ⟨#[]⟩, .string ⟨#[]⟩, .bool false, .bool false, .bool false, .bool false] 23)) w.heap.size (w.heap.size + 1) (lk9 a b c d f x y z u) := by
    refine ⟨(RowAt.new w _ _ _ rfl).alloc _, ?_, ((Below.refl _ _).alloc (Nat.le_refl _) _).alloc (by simp) _⟩
    have := RowAt.new (w.alloc (.cells #[.string a, .string b, .string c, .string d, .string f, .bool x, .bool y, .bool z, .bool u] 23)) #[.string ⟨#[]⟩, .string ⟨#[]⟩, .string ⟨#[]⟩, .string ⟨#[]⟩, .string ⟨#[]⟩, .bool false, .bool false, .bool false, .bool false] 23 zeroLk rfl
    rw [World.size_alloc] at this
    exact this
  go_enter Try.func11, Try.ntmps11
  go_upto_region 1 with fail
  obtain ⟨w1, hw1⟩ : ∃ w1, ((w.alloc (.cells #[.string a, .string b, .string c, .string d, .string f, .bool x, .bool y, .bool z, .bool u] 23)).alloc (.cells #[.string ⟨#[]⟩, .string ⟨#[]⟩, .string ⟨#[]⟩, .string ⟨#[]⟩, .string ⟨#[]⟩, .bool false, .bool false, .bool false, .bool false] 23)) = w1 := ⟨_, rfl⟩
  obtain ⟨L, hL⟩ : ∃ L, w.heap.size = L := ⟨_, rfl⟩
  obtain ⟨R, hR⟩ : ∃ R, L + 1 = R := ⟨_, rfl⟩
  rw [hw1] at h0 ⊢
  rw [hL, hR] at h0
  rw [hL]
  try rw [hR]
  clear hw1
  have hLw : w.heap.size ≤ L := by omega
  have hRL : L < R := by omega
  have c0 := h0.1.cell (j := 0) rfl
  have c1 := h0.1.cell (j := 1) rfl
  have c2 := h0.1.cell (j := 2) rfl
  have f0 := h0.1.frozen (j := 0) (by simp [lk9])
  have f1 := h0.1.frozen (j := 1) (by simp [lk9])
  have f2 := h0.1.frozen (j := 2) (by simp [lk9])
  have HS := Lib.hid h0
  clear h0
  go_cut [1, 2] (fun p q wx => p = .pointer (some ⟨L, 0, none⟩) ∧ q = .pointer (some ⟨R, 0, none⟩) ∧ MdAt w wx L R (lk9 A B C d f x y z u))
  case first =>
    go_region_with (first
      | (go_at_call_of 26 (Value.string a); refine (ha _).mono ?_; rintro e w5 ⟨rfl, hb5⟩; have hs5 := MdAt.later (MdAt.drew HS.out) hb5; have c0 := hs5.1.cell (j := 0) rfl; have c1 := hs5.1.cell (j := 1) rfl; have c2 := hs5.1.cell (j := 2) rfl; have HS5 := Lib.hid hs5; clear hs5 hb5)
      | (go_at_call_of 26 (Value.string b); refine (hb _).mono ?_; rintro e w6 ⟨rfl, hb6⟩; have hs6 := MdAt.later HS5.out hb6; have c0 := hs6.1.cell (j := 0) rfl; have c1 := hs6.1.cell (j := 1) rfl; have c2 := hs6.1.cell (j := 2) rfl; have HS6 := Lib.hid hs6; clear hs6 hb6)
      | (go_at_call_of 26 (Value.string c); refine (hc _).mono ?_; rintro e w7 ⟨rfl, hb7⟩; have hs7 := MdAt.later HS6.out hb7; have g0 := hs7.1.frozen (j := 0) (by simp [lk9]); have g1 := hs7.1.frozen (j := 1) (by simp [lk9]); have g2 := hs7.1.frozen (j := 2) (by simp [lk9]); have k0 := hs7.1.cell (j := 0) rfl; have k1 := hs7.1.cell (j := 1) rfl; have k2 := hs7.1.cell (j := 2) rfl; have HS7 := Lib.hid hs7; clear hs7 hb7))
    all_goals
      go_wp2_with fail
      go_meet
      case rel => exact ⟨rfl, rfl, ((HS7.out.set hLw hRL 0 _).set hLw hRL 1 _).set hLw hRL 2 _⟩
  case rest =>
    obtain ⟨rfl, rfl, h0⟩ := hcut
    clear c0 c1 c2 f0 f1 f2 HS
    have c3 := h0.1.cell (j := 3) rfl
    have c4 := h0.1.cell (j := 4) rfl
    have HS := Lib.hid h0
    clear h0
    go_upto_region 2 with fail
    go_cut [1, 2] (fun p q wx => p = .pointer (some ⟨L, 0, none⟩) ∧ q = .pointer (some ⟨R, 0, none⟩) ∧ MdAt w wx L R (lk9 A B C D F x y z u))
    case first =>
      go_region_with (first
        | (go_at_call_of 26 (Value.string d); refine (hd _).mono ?_; rintro e w5 ⟨rfl, hb5⟩; have hs5 := MdAt.later (MdAt.drew HS.out) hb5; have c3 := hs5.1.cell (j := 3) rfl; have c4 := hs5.1.cell (j := 4) rfl; have HS5 := Lib.hid hs5; clear hs5 hb5)
        | (go_at_call_of 26 (Value.string f); refine (hf _).mono ?_; rintro e w6 ⟨rfl, hb6⟩; have hs6 := MdAt.later HS5.out hb6; have g3 := hs6.1.frozen (j := 3) (by simp [lk9]); have g4 := hs6.1.frozen (j := 4) (by simp [lk9]); have k3 := hs6.1.cell (j := 3) rfl; have k4 := hs6.1.cell (j := 4) rfl; have HS6 := Lib.hid hs6; clear hs6 hb6))
      all_goals
        go_wp2_with fail
        go_meet
        case rel => exact ⟨rfl, rfl, (HS6.out.set hLw hRL 3 _).set hLw hRL 4 _⟩
    case rest =>
      obtain ⟨rfl, rfl, hsp⟩ := hcut
      have HSP5 := Lib.hid hsp
      have c0 := hsp.1.cell (j := 0) rfl
      have c1 := hsp.1.cell (j := 1) rfl
      have c2 := hsp.1.cell (j := 2) rfl
      have c3 := hsp.1.cell (j := 3) rfl
      have c4 := hsp.1.cell (j := 4) rfl
      have c5 := hsp.1.cell (j := 5) rfl
      have c6 := hsp.1.cell (j := 6) rfl
      have c7 := hsp.1.cell (j := 7) rfl
      have c8 := hsp.1.cell (j := 8) rfl
      have d0 := hsp.2.1.cell (j := 0) rfl
      have d1 := hsp.2.1.cell (j := 1) rfl
      have d2 := hsp.2.1.cell (j := 2) rfl
      have d3 := hsp.2.1.cell (j := 3) rfl
      have d4 := hsp.2.1.cell (j := 4) rfl
      have d5 := hsp.2.1.cell (j := 5) rfl
      have d6 := hsp.2.1.cell (j := 6) rfl
      have d7 := hsp.2.1.cell (j := 7) rfl
      have d8 := hsp.2.1.cell (j := 8) rfl
      have f0 := hsp.2.1.frozen (j := 0) (by decide)
      have f1 := hsp.2.1.frozen (j := 1) (by decide)
      have f2 := hsp.2.1.frozen (j := 2) (by decide)
      have f3 := hsp.2.1.frozen (j := 3) (by decide)
      have f4 := hsp.2.1.frozen (j := 4) (by decide)
      have f5 := hsp.2.1.frozen (j := 5) (by decide)
      have f6 := hsp.2.1.frozen (j := 6) (by decide)
      have f7 := hsp.2.1.frozen (j := 7) (by decide)
      have f8 := hsp.2.1.frozen (j := 8) (by decide)
      clear hsp
      go_wp2_with fail
      refine bodyPost_ret (v := .agg #[.string A, .string B, .string C, .string D, .string F, .bool x, .bool y, .bool z, .bool u]) (by simp [results, Try.results11, go_sem, d0, d1, d2, d3, d4, d5, d6, d7, d8]) rfl ⟨rfl, ?_⟩
      iterate 9 (refine Below.setCell ?_ (by show w.heap.size ≤ R; omega) _)
      exact HSP5.out.2.2

end Go.Proofs.Ytabagfhnkdhjdaa
