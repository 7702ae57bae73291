/- The functions within link.Relative. -/
import Derived.Test.YtabagfhnkdhjdaaGreatDoorResolve
import Derived.Test.YtabagfhnkdhjdaaGreatDoorPairsP
import Derived.RegionTactic
set_option linter.unusedVariables false
set_option maxRecDepth 100000
namespace Go.Proofs.YtabagfhnkdhjdaaGreatDoor
open Go.RowKit Go.Lib Go.BigFrame

/-- One block alone is written. -/
def OnlyAt (R : Nat) (w w' : World) : Prop := w'.heap.size = w.heap.size ∧ (∀ j, j ≠ R → w'.heap[j]? = w.heap[j]?) ∧ Below R w w'
theorem OnlyAt.refl (R : Nat) (w : World) : OnlyAt R w w := ⟨rfl, fun _ _ => rfl, Below.refl R w⟩
theorem OnlyAt.set {R : Nat} {w w' : World} (h : OnlyAt R w w') (j : Nat) (v : Value) : OnlyAt R w (w'.setCell ⟨R, j, none⟩ v) :=
  ⟨by rw [← h.1]; simp, fun i hi => by rw [Below.heap_setCell w' ⟨R, j, none⟩ v i hi]; exact h.2.1 i hi, h.2.2.setCell (p := ⟨R, j, none⟩) (Nat.le_refl _) v⟩
theorem OnlyAt.drew {R : Nat} {w w' : World} (h : OnlyAt R w w') : OnlyAt R w w'.drew := ⟨h.1, h.2.1, h.2.2.drew⟩
theorem OnlyAt.row {R b : Nat} {w w' : World} {xs : List Value} (h : OnlyAt R w w') (hr : RowAt w b xs) (hne : b ≠ R) : RowAt w' b xs := hr.same (h.2.1 b hne)

def lastS (c : ByteArray) : ByteArray := c.extract (lastI c.data.toList + 1).toNat c.size

theorem step1_any (w : World) : Calls Tryz.prog 41 #[] w fun e w' => e = .returned (.tuple #[]) ∧ w' = w := by
  go_enter Tryz.func41, Tryz.ntmps41
  go_wp2_with fail
  go_end0
  exact ⟨rfl, rfl⟩

set_option maxRecDepth 100000 in
set_option maxHeartbeats 2000000 in
theorem step2_any (a b c d f : ByteArray) (x y z u : Bool) (Q R : Nat) (row : List Value) (w : World) (hQ : RowAt w Q (row9 a b c d f x y z u)) (hT : RowAt w R row) (hlen : row.length = 9) (hQR : Q ≠ R) :
    Calls Tryz.prog 42 #[.pointer (some ⟨Q, 0, none⟩), .pointer (some ⟨R, 0, none⟩)] w fun e w' =>
      e = .returned (.tuple #[]) ∧ RowAt w' R ((row.set 3 (.string d)).set 7 (.bool z)) ∧ OnlyAt R w w' := by
  have k3 := hQ.cell (j := 3) rfl
  have k7 := hQ.cell (j := 7) rfl
  have f3 := hT.frozen (j := 3) (by omega)
  have f7 := hT.frozen (j := 7) (by omega)
  obtain ⟨v3, t3⟩ : ∃ v, w.cell? ⟨R, 3, none⟩ = some v := ⟨_, hT.cell (j := 3) (List.getElem?_eq_getElem (by omega))⟩
  obtain ⟨v7, t7⟩ : ∃ v, w.cell? ⟨R, 7, none⟩ = some v := ⟨_, hT.cell (j := 7) (List.getElem?_eq_getElem (by omega))⟩
  have hRQ : R ≠ Q := fun h => hQR h.symm
  have HT := Lib.hid hT
  clear hT hQ hlen
  go_enter Tryz.func42, Tryz.ntmps42
  go_region
  all_goals
    go_wp2_with fail
    go_end0
    exact ⟨rfl, ((HT.out.set 3 (.string d)).set 7 (.bool z)).drew, (((OnlyAt.refl R w).set 3 _).set 7 _).drew⟩

set_option maxRecDepth 100000 in
set_option maxHeartbeats 2000000 in
theorem step5_any (a b c d f : ByteArray) (x y z u : Bool) (Q R : Nat) (row : List Value) (w : World) (hQ : RowAt w Q (row9 a b c d f x y z u)) (hT : RowAt w R row) (hlen : row.length = 9) (hQR : Q ≠ R) :
    Calls Tryz.prog 46 #[.pointer (some ⟨Q, 0, none⟩), .pointer (some ⟨R, 0, none⟩)] w fun e w' =>
      e = .returned (.tuple #[]) ∧ RowAt w' R ((row.set 1 (.string b)).set 6 (.bool y)) ∧ OnlyAt R w w' := by
  have k3 := hQ.cell (j := 1) rfl
  have k7 := hQ.cell (j := 6) rfl
  have f3 := hT.frozen (j := 1) (by omega)
  have f7 := hT.frozen (j := 6) (by omega)
  obtain ⟨v3, t3⟩ : ∃ v, w.cell? ⟨R, 1, none⟩ = some v := ⟨_, hT.cell (j := 1) (List.getElem?_eq_getElem (by omega))⟩
  obtain ⟨v7, t7⟩ : ∃ v, w.cell? ⟨R, 6, none⟩ = some v := ⟨_, hT.cell (j := 6) (List.getElem?_eq_getElem (by omega))⟩
  have hRQ : R ≠ Q := fun h => hQR h.symm
  have HT := Lib.hid hT
  clear hT hQ hlen
  go_enter Tryz.func46, Tryz.ntmps46
  go_region
  all_goals
    go_wp2_with fail
    go_end0
    exact ⟨rfl, ((HT.out.set 1 (.string b)).set 6 (.bool y)).drew, (((OnlyAt.refl R w).set 1 _).set 6 _).drew⟩

set_option maxRecDepth 100000 in
set_option maxHeartbeats 2000000 in
theorem step4_any (a b c d f : ByteArray) (x y z u : Bool) (Q R : Nat) (row : List Value) (w : World) (hQ : RowAt w Q (row9 a b c d f x y z u)) (hT : RowAt w R row) (hlen : row.length = 9) (hQR : Q ≠ R) :
    Calls Tryz.prog 45 #[.pointer (some ⟨Q, 0, none⟩), .pointer (some ⟨R, 0, none⟩)] w fun e w' =>
      e = .returned (.tuple #[]) ∧ RowAt w' R (row.set 2 (.string c)) ∧ OnlyAt R w w' := by
  have k3 := hQ.cell (j := 2) rfl
  have f3 := hT.frozen (j := 2) (by omega)
  obtain ⟨v3, t3⟩ : ∃ v, w.cell? ⟨R, 2, none⟩ = some v := ⟨_, hT.cell (j := 2) (List.getElem?_eq_getElem (by omega))⟩
  have hRQ : R ≠ Q := fun h => hQR h.symm
  have HT := Lib.hid hT
  clear hT hQ hlen
  go_enter Tryz.func45, Tryz.ntmps45
  go_wp2_with fail
  go_end0
  exact ⟨rfl, HT.out.set 2 (.string c), (OnlyAt.refl R w).set 2 _⟩

set_option maxRecDepth 100000 in
set_option maxHeartbeats 2000000 in
theorem step3_any (a b c d f : ByteArray) (x y z u : Bool) (Q R : Nat) (row : List Value) (w : World) (hQ : RowAt w Q (row9 a b c d f x y z u)) (hT : RowAt w R row) (hlen : row.length = 9) (hQR : Q ≠ R) (hc : c.size ≤ 100000000) :
    Calls Tryz.prog 43 #[.pointer (some ⟨Q, 0, none⟩), .pointer (some ⟨R, 0, none⟩)] w fun e w' =>
      e = .returned (.tuple #[]) ∧ RowAt w' R (row.set 2 (.string (lastS c))) ∧ OnlyAt R w w' := by
  have k3 := (hQ.drew).cell (j := 2) rfl
  have f3 := (hT.drew).frozen (j := 2) (by omega)
  obtain ⟨v3, t3⟩ : ∃ v, w.drew.cell? ⟨R, 2, none⟩ = some v := ⟨_, hT.drew.cell (j := 2) (List.getElem?_eq_getElem (by omega))⟩
  have hRQ : R ≠ Q := fun h => hQR h.symm
  have HT := Lib.hid hT
  have hli := fun w => Tryz.strings_LastIndexByte c 47 (by omega) w
  have hbd := lastI_bd c.data.toList
  rw [← size_eq] at hbd
  have HL : Hid (lastS c = c.extract (lastI c.data.toList + 1).toNat c.size) := rfl
  obtain ⟨i, hi⟩ : ∃ i, lastI c.data.toList = i := ⟨_, rfl⟩
  rw [lastIndex_slash, hi] at hli
  rw [hi] at hbd HL
  obtain ⟨hb1, hb2⟩ := hbd
  have q1 : (0 : Int) ≤ i + 1 := by omega
  have q2 : i + 1 ≤ (c.size : Int) := by omega
  have q3 : IntKind.i64.wrap (i + 1) = i + 1 := IntWalk.i64_in _ (by omega)
  clear hT hQ hlen hi
  go_enter Tryz.func43, Tryz.ntmps43
  go_region_law (go_simp; go_at_call 44; refine (hli _).mono ?_; rintro e w3 ⟨rfl, h3⟩; rw [h3]; clear h3 w3)
  all_goals
    go_wp2_with fail
    go_end0
    exact ⟨rfl, by rw [HL.out]; exact (HT.out.set 2 _).drew, ((OnlyAt.refl R w).set 2 _).drew⟩
end Go.Proofs.YtabagfhnkdhjdaaGreatDoor
