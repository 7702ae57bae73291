/- The candidates' cells; slices.ContainsFunc at 'no good descriptor'. -/
import Derived.Test.YtabagfhnkdhjdaaGreatDoorDescr
import Derived.Deep.DeepCutAuto
set_option linter.unusedVariables false
set_option maxRecDepth 100000
namespace Go.Proofs.YtabagfhnkdhjdaaGreatDoor
open Go.RowKit Go.Lib

theorem infoCd : (Tryz.prog.info? 27).map (fun i => (i.zero, i.size, i.bytes)) = some (some (.agg #[.string ⟨#[]⟩, .string ⟨#[]⟩]), 2, 32) := by kernel_rfl

def cdRow (p : ByteArray × ByteArray) : List Value := [.string p.1, .string p.2]
def cdCells (ps : List (ByteArray × ByteArray)) : List Value := ps.flatMap cdRow
theorem cdCells_snoc (ps : List (ByteArray × ByteArray)) (p : ByteArray × ByteArray) : cdCells (ps ++ [p]) = cdCells ps ++ cdRow p := by simp [cdCells]
theorem cdCells_len (ps : List (ByteArray × ByteArray)) : (cdCells ps).length = ps.length * 2 := by
  induction ps with
  | nil => rfl
  | cons p ps ih =>
    unfold cdCells at *
    rw [List.flatMap_cons, List.length_append, ih]
    simp [cdRow]; omega
theorem cdCells_at : ∀ {ps : List (ByteArray × ByteArray)} {k : Nat} {p : ByteArray × ByteArray}, ps[k]? = some p → ∀ (i : Nat) (u : Value), (cdRow p)[i]? = some u → (cdCells ps)[k * 2 + i]? = some u
  | [], k, p, h, _, _, _ => by simp at h
  | q :: ps, 0, p, h, i, u, hu => by
    simp at h; subst h
    unfold cdCells
    rw [List.flatMap_cons, Nat.zero_mul, Nat.zero_add, List.getElem?_append_left (List.getElem?_eq_some_iff.1 hu).1]
    exact hu
  | q :: ps, k + 1, p, h, i, u, hu => by
    unfold cdCells
    rw [List.flatMap_cons, List.getElem?_append_right (by simp [cdRow]; omega)]
    have e : (k + 1) * 2 + i - (cdRow q).length = k * 2 + i := by simp [cdRow]; omega
    rw [e]
    exact cdCells_at (ps := ps) (by simpa using h) i u hu

/-- A slice of pairs of strings, as it lies. -/
def PairsAt (w : World) (v : Value) (l : List (ByteArray × ByteArray)) : Prop :=
  ∃ (a0 : Option Addr) (cap : Nat), v = .slice a0 l.length cap ∧ l.length ≤ cap ∧ ∀ (i : Nat) (p : ByteArray × ByteArray), l[i]? = some p → ∃ a, a0 = some a ∧ w.cell? (a.add (i * 2)) = some (.string p.1) ∧ w.cell? ⟨(a.add (i * 2)).block, (a.add (i * 2)).off + 1, none⟩ = some (.string p.2)
theorem cell_in {w : World} {p : Addr} {v : Value} (h : w.cell? p = some v) : p.block < w.heap.size := by
  unfold World.cell? at h
  apply Classical.byContradiction
  intro hn
  rw [Array.getElem?_eq_none (by omega)] at h
  cases h
theorem PairsAt.below {w w' : World} {v : Value} {l : List (ByteArray × ByteArray)} (h : PairsAt w v l) (hb : Below w.heap.size w w') : PairsAt w' v l := by
  obtain ⟨a0, cap, h1, h2, h3⟩ := h
  refine ⟨a0, cap, h1, h2, fun i p hi => ?_⟩
  obtain ⟨a, ha, c1, c2⟩ := h3 i p hi
  exact ⟨a, ha, (hb.cell (p := a.add (i * 2)) (cell_in c1)).trans c1, (hb.cell (p := ⟨(a.add (i * 2)).block, (a.add (i * 2)).off + 1, none⟩) (cell_in c2)).trans c2⟩
theorem pairs_own {w : World} {base : Nat} {e : TypeId} {v : Value} {l : List (ByteArray × ByteArray)} (h : w.ownsRow base e 2 v l.length (cdCells l)) : PairsAt w v l := by
  rcases h.2 with ⟨rfl, h0⟩ | ⟨g, cap, cur, rfl, _, hh, hn, _, _, ht⟩
  · obtain rfl := List.length_eq_zero_iff.1 h0
    exact ⟨none, 0, rfl, Nat.le_refl _, fun i p hi => by simp at hi⟩
  · have hcell : ∀ (j : Nat) (u : Value), (cdCells l)[j]? = some u → w.cell? ⟨g, j, none⟩ = some u := fun j u hj => by
      have hjl : j < l.length * 2 := by
        have := (List.getElem?_eq_some_iff.1 hj).1
        rw [cdCells_len] at this; exact this
      rw [← ht, List.getElem?_take_of_lt hjl] at hj
      simp only [World.cell?, hh]
      rw [← Array.getElem?_toList]
      simpa using hj
    refine ⟨some ⟨g, 0, none⟩, cap, rfl, hn, fun i p hi => ⟨_, rfl, ?_, ?_⟩⟩
    · rw [add_at]; exact hcell _ _ (cdCells_at hi 0 _ rfl)
    · rw [add_at]; exact hcell _ _ (cdCells_at hi 1 _ rfl)

theorem srcset1_any (a b : ByteArray) (w : World) (hb : b.size ≤ 140737488355328) :
    Calls Tryz.prog 24 #[.agg #[.string a, .string b]] w fun e w' => e = .returned (.bool (!goodD b.data.toList)) ∧ Below w.heap.size w w' := by
  have hg := fun w => goodDesc_any b w hb
  have hr := RowAt.new w #[.string a, .string b] 27 [.string a, .string b] rfl
  have hbw := (Below.refl w.heap.size w).alloc (Nat.le_refl _) (.cells #[.string a, .string b] 27)
  obtain ⟨g, hgg⟩ : ∃ g, goodD b.data.toList = g := ⟨_, rfl⟩
  rw [hgg] at hg
  rw [hgg]
  have HB := Lib.hid hbw
  have c0 := hr.cell (j := 0) rfl
  have c1 := hr.cell (j := 1) rfl
  clear hbw hr hgg
  cases g
  all_goals
    go_enter Tryz.func24, Tryz.ntmps24
    go_wp2_with (go_at_call 25; refine (hg _).mono ?_; rintro e w2 ⟨rfl, rfl⟩)
    go_ret
    exact ⟨rfl, HB.out⟩

def badAny (l : List (ByteArray × ByteArray)) : Bool := l.any fun p => !goodD p.2.data.toList

set_option maxHeartbeats 2000000 in
theorem indexFunc_any (v : Value) (l : List (ByteArray × ByteArray)) (w : World) (hl : l.length ≤ 140737488355328) (hsz : ∀ p ∈ l, p.2.size ≤ 140737488355328) (hp : PairsAt w v l) :
    Calls Tryz.prog 60 #[v, .func (.func 24) #[] #[]] w fun e w' => ∃ z : Int, e = .returned (.int .i64 z) ∧ decide (0 ≤ z) = badAny l ∧ Below w.heap.size w w' := by
  obtain ⟨a0, cap, rfl, hcap, hc⟩ := hp
  have HC := Lib.hid hc
  have HSZ := Lib.hid hsz
  clear hc hsz
  go_enter Tryz.func60, Tryz.ntmps60
  go_wp2_with fail
  go_loopw [8, 5] (fun i _ wr => ∃ k : Nat, k ≤ l.length ∧ i = .int .i64 k ∧ badAny (l.take k) = false ∧ Below w.heap.size w wr) (fun i _ _ => l.length - (RowKit.intOf i).toNat)
  case atStart => exact ⟨0, Nat.zero_le _, rfl, rfl, Below.refl _ _⟩
  case round =>
    obtain ⟨k, hk, rfl, hno, hbw⟩ := hrel
    have HN := Lib.hid hno
    have HB := Lib.hid hbw
    clear hno
    by_cases hlt : k < l.length
    · have hltI : (k : Int) < (l.length : Int) := by omega
      obtain ⟨a, rfl, hx0, hx1⟩ := HC.out k l[k] (List.getElem?_eq_getElem hlt)
      have hy0 := (hbw.cell (p := a.add (k * 2)) (cell_in hx0)).trans hx0
      have hy1 := (hbw.cell (p := ⟨(a.add (k * 2)).block, (a.add (k * 2)).off + 1, none⟩) (cell_in hx1)).trans hx1
      have HTK : Hid (l.take (k + 1) = l.take k ++ [l[k]]) := List.take_succ_eq_append_getElem hlt
      have HM : Hid (l[k] ∈ l) := List.getElem_mem hlt
      obtain ⟨p, hpp⟩ : ∃ p, l[k] = p := ⟨_, rfl⟩
      rw [hpp] at hy0 hy1 HTK HM
      clear hx0 hx1 hpp HC
      obtain ⟨x, y⟩ := p
      simp only at hy0 hy1
      have hcl := fun w => srcset1_any x y w (HSZ.out (x, y) HM.out)
      clear hbw
      cases hq : goodD y.data.toList
      · rw [hq] at hcl
        have HY : Hid (badAny l = true) := by
          show _ = _
          unfold badAny
          rw [List.any_eq_true]
          exact ⟨(x, y), HM.out, by show (!goodD y.data.toList) = true; rw [hq]; rfl⟩
        clear hq
        go_wp2_with fail
        refine (hcl _).mono ?_
        clear hcl
        rintro e w2 ⟨rfl, hb2⟩
        have HB2 : Hid (Below w.heap.size w w2) := HB.out.trans (hb2.mono HB.out.size)
        clear hb2
        go_wp2_with fail
        go_ret
        exact ⟨k, rfl, by rw [HY.out]; simp, HB2.out⟩
      · rw [hq] at hcl
        have HN2 : Hid (badAny (l.take (k + 1)) = false) := by
          show _ = _
          rw [HTK.out]
          unfold badAny at *
          rw [List.any_append, HN.out]
          simp [hq]
        clear hq
        go_wp2_with fail
        refine (hcl _).mono ?_
        clear hcl
        rintro e w2 ⟨rfl, hb2⟩
        have HB2 : Hid (Below w.heap.size w w2) := HB.out.trans (hb2.mono HB.out.size)
        clear hb2
        go_wp2_with fail
        go_roundw
        case rel => exact ⟨k + 1, by omega, by go_num, HN2.out, HB2.out⟩
        case measure => simp [RowKit.intOf]; omega
    · obtain rfl : k = l.length := by omega
      have HY : Hid (badAny l = false) := by
        have := HN.out
        rw [List.take_length] at this
        exact this
      clear hbw
      go_wp2_with fail
      go_ret
      exact ⟨-1, rfl, by rw [HY.out]; rfl, HB.out⟩

set_option maxHeartbeats 2000000 in
theorem containsFunc_any (v : Value) (l : List (ByteArray × ByteArray)) (w : World) (hl : l.length ≤ 140737488355328) (hsz : ∀ p ∈ l, p.2.size ≤ 140737488355328) (hp : PairsAt w v l) :
    Calls Tryz.prog 23 #[v, .func (.func 24) #[] #[]] w fun e w' => e = .returned (.bool (badAny l)) ∧ Below w.heap.size w w' := by
  have h := indexFunc_any v l w hl hsz hp
  generalize badAny l = b at h
  obtain ⟨a0, cap, rfl, _, _⟩ := hp
  go_enter Tryz.func23, Tryz.ntmps23
  go_wp2_with fail
  refine h.mono ?_
  clear h
  rintro e w2 ⟨z, rfl, hz, hb2⟩
  have HB2 := Lib.hid hb2
  clear hb2
  have HZ := Lib.hid hz
  clear hz
  go_wp2_with fail
  go_ret
  exact ⟨by show Ending.returned (.bool (decide (0 ≤ z))) = _; rw [HZ.out], HB2.out⟩

end Go.Proofs.YtabagfhnkdhjdaaGreatDoor
