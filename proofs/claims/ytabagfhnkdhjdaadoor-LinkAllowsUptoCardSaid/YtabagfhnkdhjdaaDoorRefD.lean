/- The reference's Runes, Bytes, Text, Mend. -/
import Derived.Test.YtabagfhnkdhjdaaDoorRefC
set_option linter.unusedVariables false
set_option maxRecDepth 100000
namespace Go.Proofs.YtabagfhnkdhjdaaDoor
open Go.RowKit Go.Lib

theorem pcRow_len (p : Nat × Nat × Nat × Bool) : (pcRow p).length = 4 := rfl
theorem pcCells_at : ∀ {ps : List (Nat × Nat × Nat × Bool)} {k : Nat} {p : Nat × Nat × Nat × Bool}, ps[k]? = some p → ∀ (i : Nat) (u : Value), (pcRow p)[i]? = some u → (pcCells ps)[k * 4 + i]? = some u
  | [], k, p, h, _, _, _ => by simp at h
  | q :: ps, 0, p, h, i, u, hi => by
    simp at h
    subst h
    have e : pcCells (q :: ps) = pcRow q ++ pcCells ps := by simp [pcCells]
    have hl : i < (pcRow q).length := (List.getElem?_eq_some_iff.1 hi).1
    rw [e, Nat.zero_mul, Nat.zero_add, List.getElem?_append_left hl, hi]
  | q :: ps, k + 1, p, h, i, u, hi => by
    have e : pcCells (q :: ps) = pcRow q ++ pcCells ps := by simp [pcCells]
    rw [e, List.getElem?_append_right (by rw [pcRow_len]; omega), pcRow_len]
    rw [show (k + 1) * 4 + i - 4 = k * 4 + i by omega]
    exact pcCells_at (by simpa using h) i u hi

theorem one_new (w : World) (o : Obj) (x : Value) (e : TypeId) : ∀ (j : Nat) (u : Value), [x][j]? = some u → ((w.alloc o).alloc (.cells #[x] e)).cell? ((⟨w.heap.size + 1, 0, none⟩ : Addr).add j) = some u := by
  intro j u hj
  have := RowAt.new (w.alloc o) #[x] e [x] rfl
  rw [World.size_alloc] at this
  rw [add_at]
  exact this.cell hj

set_option maxRecDepth 100000 in
set_option maxHeartbeats 1000000 in
theorem rrunes_any (B cap : Nat) (l : List UInt8) (w : World) (hl : l.length ≤ 2199023255552) (hcap : l.length ≤ cap) (hrow : RowAt w B (byteCells l)) :
    Calls Tryd.prog 67 #[.slice (some ⟨B, 0, none⟩) l.length cap] w fun e w' =>
      ∃ v, e = .returned v ∧ w'.ownsRow w.heap.size 21 1 v (runes l).length (runeCells (runes l)) ∧ Below w.heap.size w w' := by
  obtain ⟨i0, hi, hz0, hz1, hz2⟩ := info_parts infoR
  have hpc := pieces_any B cap l w hl hcap hrow
  have hpr := pcs_runes l.length 0 l (Nat.le_refl _)
  have hrl := runes_len_le l.length l (Nat.le_refl _)
  obtain ⟨ps, hps⟩ : ∃ ps, pcs 0 l = ps := ⟨_, rfl⟩
  rw [hps] at hpc hpr
  have hpl : ps.length = (runes l).length := by rw [← hpr, List.length_map]
  have HPR := Lib.hid hpr
  have HPL := Lib.hid hpl
  have hpl2 : ps.length ≤ 2199023255552 := by omega
  clear hps hpr hrow hpl hrl
  go_enter Tryd.func67, Tryd.ntmps67
  go_wp2_with fail
  refine hpc.mono ?_
  clear hpc
  rintro e w1 ⟨v, rfl, hown, hb⟩
  have HB := Lib.hid hb
  have hsz := hb.size
  have hsh : (v = .slice none 0 0 ∧ ps = []) ∨ ∃ g cap', v = .slice (some ⟨g, 0, none⟩) ps.length cap' ∧ g < w1.heap.size ∧ RowAt w1 g (pcCells ps) := by
    rcases hown.2 with ⟨h1, h2⟩ | ⟨g, cap', cur, h1, h2, h4, _, _, _, h8⟩
    · exact .inl ⟨h1, List.length_eq_zero_iff.1 h2⟩
    · subst h1
      have h5 : RowAt w1 g (pcCells ps) := ⟨cur, _, (0, 0), h4, by rw [hown.1]; exact h8, .inl rfl⟩
      exact .inr ⟨g, cap', rfl, h5.lt, h5⟩
  clear hown hb
  rcases hsh with ⟨rfl, hnil⟩ | ⟨g, cap', rfl, hg, hrw⟩
  · subst hnil
    have HN : Hid (runes l = []) := by show _ = _; rw [← HPR.out]; rfl
    go_wp2_with fail
    go_loopw [3, 9, 5] (fun v i _ wr => v = .slice none 0 0 ∧ i = .int .i64 0 ∧ wr = w1) (fun _ _ _ _ => 0)
    case atStart => exact ⟨rfl, rfl, rfl⟩
    case round =>
      obtain ⟨rfl, rfl, rfl⟩ := hrel
      go_wp2_with fail
      go_ret
      refine ⟨_, rfl, ?_, HB.out⟩
      rw [HN.out]
      exact World.ownsRow_nil _ _ _ _
  · have HW := Lib.hid hrw
    clear hrw
    go_wp2_with fail
    go_loopw [3, 9, 5] (fun v i _ wr => ∃ k : Nat, k ≤ ps.length ∧ i = .int .i64 k ∧ wr.ownsRow w1.heap.size 21 1 v k (runeCells ((ps.take k).map (·.1))) ∧ Below w1.heap.size w1 wr) (fun _ i _ _ => ps.length - (RowKit.intOf i).toNat)
    case atStart => exact ⟨0, Nat.zero_le _, rfl, World.ownsRow_nil _ _ _ _, Below.refl _ _⟩
    case round =>
      obtain ⟨k, hk, rfl, hown, hbel⟩ := hrel
      have HO := Lib.hid hown
      have HBl := Lib.hid hbel
      have hsz2 := hbel.size
      clear hown hbel
      by_cases hlt : k < ps.length
      · obtain ⟨⟨r, a1, s1, b1⟩, hp⟩ : ∃ p, ps[k]? = some p := ⟨_, List.getElem?_eq_getElem hlt⟩
        have hltI : (k : Int) < (ps.length : Int) := by omega
        have hrw2 := HW.out.below HBl.out hg
        have c0 := hrw2.cell (pcCells_at hp 0 _ rfl)
        rw [Nat.add_zero] at c0
        have c1 := hrw2.cell (pcCells_at hp 1 _ rfl)
        have c2 := hrw2.cell (pcCells_at hp 2 _ rfl)
        have c3 := hrw2.cell (pcCells_at hp 3 _ rfl)
        simp only at c0 c1 c2 c3
        have HT : Hid (runeCells ((ps.take (k + 1)).map (·.1)) = runeCells ((ps.take k).map (·.1)) ++ [.int .i32 (r : Nat)]) := by
          show _ = _
          rw [List.take_add_one, hp]
          simp [runeCells]
        clear hrw2 hp
        go_wp2_with (at_builtin; refine wpList_append_own _ rfl _ _ 50 rfl w1.heap.size 21 i0 (.int .i32 0) 1 4 Tryd.underlying50 hi hz0 hz1 hz2 rfl (by decide) _ _ _ rfl ((HO.out.alloc _).alloc _) ⟨wr.heap.size + 1, 0, none⟩ 1 1 [.int .i32 (r : Nat)] rfl rfl (by exact one_new wr _ _ _) (by simp [Value.oneCell']) (by unfold maxLen; omega) (by omega) (by simp; omega) ?_; intro v' w2 hown' hgrow _)
        have HO2 := Lib.hid hown'
        have HB2 : Hid (Below w1.heap.size w1 w2) := ((HBl.out.alloc hsz2 _).alloc (by simp; omega) _).grown hgrow (by simp; omega) (fun j ej => (HO.out.lt j ej).1)
        clear hown' hgrow
        go_wp2_with fail
        go_roundw
        case rel => exact ⟨k + 1, by omega, by go_num, by rw [HT.out]; exact HO2.out, HB2.out⟩
        case measure => simp [RowKit.intOf]; omega
      · obtain rfl : k = ps.length := by omega
        go_wp2_with fail
        go_ret
        refine ⟨_, rfl, ?_, HB.out.trans (HBl.out.mono hsz)⟩
        rw [← HPR.out, List.length_map]
        have h := HO.out
        rw [List.take_length] at h
        exact ownsRow_base h hsz

end Go.Proofs.YtabagfhnkdhjdaaDoor
