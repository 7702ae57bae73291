/- link.Relative: the walk. -/
import Derived.Test.YtabagfhnkdhjdaaGreatDoorStep
import Derived.Test.YtabagfhnkdhjdaaGreatDoorRoads
set_option linter.unusedVariables false
set_option maxRecDepth 100000
namespace Go.Proofs.YtabagfhnkdhjdaaGreatDoor
open Go.RowKit Go.Lib Go.BigFrame

/-- A text that Split may give. -/
def Vk (s : ByteArray) : Prop := Valid s.data.toList ∧ s.size ≤ 8000000
theorem Vk.nil : Vk ⟨#[]⟩ := ⟨Valid.nil, Nat.zero_le _⟩
theorem Vk.mend {s : ByteArray} (h : Vk s) : mendS s = s := by
  unfold mendS
  rw [mend_of_valid h.1]
theorem mended_id {a b c d f : ByteArray} (x y z u : Bool) (ha : Vk a) (hb : Vk b) (hc : Vk c) (hd : Vk d) (hf : Vk f) (w : World) :
    Calls Tryz.prog 40 #[.agg #[.string a, .string b, .string c, .string d, .string f, .bool x, .bool y, .bool z, .bool u]] w fun e w' => e = .returned (.agg #[.string a, .string b, .string c, .string d, .string f, .bool x, .bool y, .bool z, .bool u]) ∧ Below w.heap.size w w' := by
  have := mended_any a b c d f x y z u w (by
    intro s hs
    simp only [List.mem_cons, List.not_mem_nil, or_false] at hs
    rcases hs with rfl | rfl | rfl | rfl | rfl
    · exact Nat.le_trans ha.2 (by decide)
    · exact Nat.le_trans hb.2 (by decide)
    · exact Nat.le_trans hc.2 (by decide)
    · exact Nat.le_trans hd.2 (by decide)
    · exact Nat.le_trans hf.2 (by decide))
  rw [ha.mend, hb.mend, hc.mend, hd.mend, hf.mend] at this
  exact this
theorem Vk.last {c : ByteArray} (h : Vk c) : Vk (lastS c) := by
  have e : (lastS c).data.toList = c.data.toList.drop (lastI c.data.toList + 1).toNat := drop_ext _ _
  refine ⟨?_, ?_⟩
  · rw [e]
    unfold lastI
    rcases lastSlash_spec c.data.toList with ⟨h1, _⟩ | ⟨n, h1, h2, _⟩
    · rw [h1]
      exact h.1
    · rw [h1]
      obtain ⟨hlt, hv⟩ := List.getElem?_eq_some_iff.1 h2
      have hs : c.data.toList = c.data.toList.take n ++ 47 :: c.data.toList.drop (n + 1) := by
        conv => lhs; rw [← List.take_append_drop n c.data.toList, List.drop_eq_getElem_cons hlt, hv]
      have := h.1
      rw [hs] at this
      exact (Valid.part (by decide) this).2
  · rw [size_eq, e, List.length_drop, ← size_eq]
    have := h.2
    omega
/-- A row of such texts. -/
def RowV (row : List Value) : Prop := ∃ A B C D F X Y Z U, row = row9 A B C D F X Y Z U ∧ Vk A ∧ Vk B ∧ Vk C ∧ Vk D ∧ Vk F

theorem row9_len (A B C D F : ByteArray) (X Y Z U : Bool) : (row9 A B C D F X Y Z U).length = 9 := rfl
theorem resF_row (a0 b0 c0 d0 a1 b1 c1 d1 f1 : ByteArray) (x0 y0 z0 x1 y1 z1 u1 : Bool) : ∃ A B C D F X Y Z U, resF a0 b0 c0 d0 a1 b1 c1 d1 f1 x0 y0 z0 x1 y1 z1 u1 = row9 A B C D F X Y Z U := by
  obtain ⟨A, B, C, D, F, X, Y, Z, U, h⟩ := resT_row b0 c0 d0 a1 b1 c1 d1 f1 y0 z0 x1 y1 z1 u1
  unfold resF
  rw [h]
  split <;> exact ⟨_, _, _, _, _, _, _, _, _, rfl⟩

theorem toList_inj {a b : ByteArray} (h : a.toList = b.toList) : a = b := by
  rw [Lib.toList_data, Lib.toList_data] at h
  exact ByteArray.ext (Array.toList_inj.1 h)
theorem cmp9 (A2 B2 C2 D2 F2 a1 b1 c1 d1 f1 : ByteArray) (X2 Y2 Z2 U2 x1 y1 z1 u1 : Bool) : ∃ E : Bool, (E = true ↔ row9 A2 B2 C2 D2 F2 X2 Y2 Z2 U2 = row9 a1 b1 c1 d1 f1 x1 y1 z1 u1) ∧ ∀ w : World, ((if A2.toList = a1.toList then (if B2.toList = b1.toList then (if C2.toList = c1.toList then (if D2.toList = d1.toList then (if F2.toList = f1.toList then (if X2 = x1 then (if Y2 = y1 then (if Z2 = z1 then (if U2 = u1 then (Result.ok (Next.value (Value.bool true)) w) else Result.ok (Next.value (Value.bool false)) w) else Result.ok (Next.value (Value.bool false)) w) else Result.ok (Next.value (Value.bool false)) w) else Result.ok (Next.value (Value.bool false)) w) else Result.ok (Next.value (Value.bool false)) w) else Result.ok (Next.value (Value.bool false)) w) else Result.ok (Next.value (Value.bool false)) w) else Result.ok (Next.value (Value.bool false)) w) else Result.ok (Next.value (Value.bool false)) w) : Result Next) = Result.ok (Next.value (Value.bool E)) w := by
  refine ⟨decide (A2.toList = a1.toList ∧ B2.toList = b1.toList ∧ C2.toList = c1.toList ∧ D2.toList = d1.toList ∧ F2.toList = f1.toList ∧ X2 = x1 ∧ Y2 = y1 ∧ Z2 = z1 ∧ U2 = u1), ?_, fun w => ?_⟩
  · rw [decide_eq_true_iff]
    constructor
    · rintro ⟨h1, h2, h3, h4, h5, rfl, rfl, rfl, rfl⟩
      rw [toList_inj h1, toList_inj h2, toList_inj h3, toList_inj h4, toList_inj h5]
    · intro h
      simp only [row9, List.cons.injEq, Value.string.injEq, Value.bool.injEq, and_true] at h
      obtain ⟨rfl, rfl, rfl, rfl, rfl, rfl, rfl, rfl, rfl⟩ := h
      simp
  · repeat' split
    all_goals simp_all
theorem run_enter {f : FuncId} {fn : Func} (hf : Tryz.prog.funcs[f]? = some fn) (hname : (fn.name == "runtime.NumGoroutine") = false) (hb : fn.body.isNone = false) (args : Array Value) (w : World) :
    (callFunc f args).run Tryz.prog w = .ok (.enter f args) w := by
  have h1 : fn.name ≠ "runtime.NumGoroutine" := by simpa using hname
  simp [callFunc, hf, h1]
  intro h
  rw [h] at hb
  cases hb
/-- The five steps, as values. -/
def fnsL (Q T : Nat) : List Value := [.func (.func 41) #[] #[], .func (.func 42) #[] #[.pointer (some ⟨Q, 0, none⟩), .pointer (some ⟨T, 0, none⟩)], .func (.func 43) #[] #[.pointer (some ⟨Q, 0, none⟩), .pointer (some ⟨T, 0, none⟩)], .func (.func 45) #[] #[.pointer (some ⟨Q, 0, none⟩), .pointer (some ⟨T, 0, none⟩)], .func (.func 46) #[] #[.pointer (some ⟨Q, 0, none⟩), .pointer (some ⟨T, 0, none⟩)]]
theorem step_any {a b c d f : ByteArray} (x y z u : Bool) (Q T : Nat) {row : List Value} (w : World) (ka : Vk a) (kb : Vk b) (kc : Vk c) (kd : Vk d) (kf : Vk f) (hQ : RowAt w Q (row9 a b c d f x y z u)) (hT : RowAt w T row) (hrow : RowV row) (hQT : Q ≠ T) (k : Nat) (hk : k < 5) :
    ∃ fid args, (fnsL Q T)[k]? = some (.func (.func fid) #[] args) ∧ (∀ w, (callFunc fid args).run Tryz.prog w = .ok (.enter fid args) w) ∧ Calls Tryz.prog fid args w fun e w' => e = .returned (.tuple #[]) ∧ ∃ row', RowV row' ∧ RowAt w' T row' ∧ OnlyAt T w w' := by
  obtain ⟨A, B, C, D, F, X, Y, Z, U, rfl, hA, hB, hC, hD, hF⟩ := hrow
  match k, hk with
  | 0, _ =>
    refine ⟨_, _, rfl, fun w => run_enter Tryz.func41 (by kernel_rfl) (by kernel_rfl) _ w, (step1_any w).mono ?_⟩
    rintro e w' ⟨rfl, rfl⟩
    exact ⟨rfl, _, ⟨_, _, _, _, _, _, _, _, _, rfl, hA, hB, hC, hD, hF⟩, hT, OnlyAt.refl _ _⟩
  | 1, _ =>
    refine ⟨_, _, rfl, fun w => run_enter Tryz.func42 (by kernel_rfl) (by kernel_rfl) _ w, (step2_any a b c d f x y z u Q T _ w hQ hT rfl hQT).mono ?_⟩
    rintro e w' ⟨rfl, h1, h2⟩
    exact ⟨rfl, _, ⟨A, B, C, d, F, X, Y, z, U, rfl, hA, hB, hC, kd, hF⟩, h1, h2⟩
  | 2, _ =>
    refine ⟨_, _, rfl, fun w => run_enter Tryz.func43 (by kernel_rfl) (by kernel_rfl) _ w, (step3_any a b c d f x y z u Q T _ w hQ hT rfl hQT (Nat.le_trans kc.2 (by decide))).mono ?_⟩
    rintro e w' ⟨rfl, h1, h2⟩
    exact ⟨rfl, _, ⟨A, B, lastS c, D, F, X, Y, Z, U, rfl, hA, hB, kc.last, hD, hF⟩, h1, h2⟩
  | 3, _ =>
    refine ⟨_, _, rfl, fun w => run_enter Tryz.func45 (by kernel_rfl) (by kernel_rfl) _ w, (step4_any a b c d f x y z u Q T _ w hQ hT rfl hQT).mono ?_⟩
    rintro e w' ⟨rfl, h1, h2⟩
    exact ⟨rfl, _, ⟨A, B, c, D, F, X, Y, Z, U, rfl, hA, hB, kc, hD, hF⟩, h1, h2⟩
  | 4, _ =>
    refine ⟨_, _, rfl, fun w => run_enter Tryz.func46 (by kernel_rfl) (by kernel_rfl) _ w, (step5_any a b c d f x y z u Q T _ w hQ hT rfl hQT).mono ?_⟩
    rintro e w' ⟨rfl, h1, h2⟩
    exact ⟨rfl, _, ⟨A, b, C, D, F, X, y, Z, U, rfl, hA, kb, hC, hD, hF⟩, h1, h2⟩

/-- What Relative hands back. -/
def RelOut (a0 b0 c0 d0 a1 b1 c1 d1 f1 : ByteArray) (x0 y0 z0 x1 y1 z1 u1 : Bool) (w w' : World) (e : Ending) : Prop := ∃ A B C D F X Y Z U, e = .returned (.agg #[.string A, .string B, .string C, .string D, .string F, .bool X, .bool Y, .bool Z, .bool U]) ∧ (Vk A ∧ Vk B ∧ Vk C ∧ Vk D ∧ Vk F) ∧ (resF a0 b0 c0 d0 A B C D F x0 y0 z0 X Y Z U = row9 a1 b1 c1 d1 f1 x1 y1 z1 u1 ∨ row9 A B C D F X Y Z U = row9 a1 b1 c1 d1 f1 x1 y1 z1 u1) ∧ Below w.heap.size w w'
theorem RelOut.mk {a0 b0 c0 d0 a1 b1 c1 d1 f1 : ByteArray} {x0 y0 z0 x1 y1 z1 u1 : Bool} {w w' : World} (A B C D F : ByteArray) (X Y Z U : Bool) (hv : Vk A ∧ Vk B ∧ Vk C ∧ Vk D ∧ Vk F) (hr : resF a0 b0 c0 d0 A B C D F x0 y0 z0 X Y Z U = row9 a1 b1 c1 d1 f1 x1 y1 z1 u1 ∨ row9 A B C D F X Y Z U = row9 a1 b1 c1 d1 f1 x1 y1 z1 u1) (hb : Below w.heap.size w w') :
    RelOut a0 b0 c0 d0 a1 b1 c1 d1 f1 x0 y0 z0 x1 y1 z1 u1 w w' (.returned (.agg #[.string A, .string B, .string C, .string D, .string F, .bool X, .bool Y, .bool Z, .bool U])) :=
  ⟨A, B, C, D, F, X, Y, Z, U, rfl, hv, hr, hb⟩

set_option maxRecDepth 100000 in
set_option maxHeartbeats 8000000 in
theorem relative_any (a0 b0 c0 d0 f0 a1 b1 c1 d1 f1 : ByteArray) (x0 y0 z0 u0 x1 y1 z1 u1 : Bool) (w : World)
    (hm0 : ∀ w, Calls Tryz.prog 40 #[.agg #[.string a0, .string b0, .string c0, .string d0, .string f0, .bool x0, .bool y0, .bool z0, .bool u0]] w fun e w' => e = .returned (.agg #[.string a0, .string b0, .string c0, .string d0, .string f0, .bool x0, .bool y0, .bool z0, .bool u0]) ∧ Below w.heap.size w w')
    (hm1 : ∀ w, Calls Tryz.prog 40 #[.agg #[.string a1, .string b1, .string c1, .string d1, .string f1, .bool x1, .bool y1, .bool z1, .bool u1]] w fun e w' => e = .returned (.agg #[.string a1, .string b1, .string c1, .string d1, .string f1, .bool x1, .bool y1, .bool z1, .bool u1]) ∧ Below w.heap.size w w')
    (hc0 : c0.size ≤ 8000000) (ka : Vk a1) (kb : Vk b1) (kc : Vk c1) (kd : Vk d1) (kf : Vk f1) :
    Calls Tryz.prog 14 #[.agg #[.string a0, .string b0, .string c0, .string d0, .string f0, .bool x0, .bool y0, .bool z0, .bool u0], .agg #[.string a1, .string b1, .string c1, .string d1, .string f1, .bool x1, .bool y1, .bool z1, .bool u1]] w fun e w' => RelOut a0 b0 c0 d0 a1 b1 c1 d1 f1 x0 y0 z0 x1 y1 z1 u1 w w' e := by
  have HRES : Hid (∀ (A B C D F : ByteArray) (X Y Z U : Bool), Vk A → Vk B → Vk C → Vk D → Vk F → ∀ w, Calls Tryz.prog 15 #[.agg #[.string a0, .string b0, .string c0, .string d0, .string f0, .bool x0, .bool y0, .bool z0, .bool u0], .agg #[.string A, .string B, .string C, .string D, .string F, .bool X, .bool Y, .bool Z, .bool U]] w fun e w' => e = .returned (.agg (resF a0 b0 c0 d0 A B C D F x0 y0 z0 X Y Z U).toArray) ∧ Below w.heap.size w w') := fun A B C D F X Y Z U hA hB hC hD hF w => resolve_any a0 b0 c0 d0 f0 A B C D F x0 y0 z0 u0 X Y Z U w hm0 (mended_id X Y Z U hA hB hC hD hF) (Nat.le_trans hc0 (by decide)) (Nat.le_trans hC.2 (by decide))
  have hP := (RowAt.new w #[.string a0, .string b0, .string c0, .string d0, .string f0, .bool x0, .bool y0, .bool z0, .bool u0] 42 (row9 a0 b0 c0 d0 f0 x0 y0 z0 u0) rfl).alloc (.cells #[.string a1, .string b1, .string c1, .string d1, .string f1, .bool x1, .bool y1, .bool z1, .bool u1] 42) |>.alloc (.cells #[.string ⟨#[]⟩, .string ⟨#[]⟩, .string ⟨#[]⟩, .string ⟨#[]⟩, .string ⟨#[]⟩, .bool false, .bool false, .bool false, .bool false] 42)
  have hQ := (RowAt.new (w.alloc (.cells #[.string a0, .string b0, .string c0, .string d0, .string f0, .bool x0, .bool y0, .bool z0, .bool u0] 42)) #[.string a1, .string b1, .string c1, .string d1, .string f1, .bool x1, .bool y1, .bool z1, .bool u1] 42 (row9 a1 b1 c1 d1 f1 x1 y1 z1 u1) rfl).alloc (.cells #[.string ⟨#[]⟩, .string ⟨#[]⟩, .string ⟨#[]⟩, .string ⟨#[]⟩, .string ⟨#[]⟩, .bool false, .bool false, .bool false, .bool false] 42)
  have hR := RowAt.new ((w.alloc (.cells #[.string a0, .string b0, .string c0, .string d0, .string f0, .bool x0, .bool y0, .bool z0, .bool u0] 42)).alloc (.cells #[.string a1, .string b1, .string c1, .string d1, .string f1, .bool x1, .bool y1, .bool z1, .bool u1] 42)) #[.string ⟨#[]⟩, .string ⟨#[]⟩, .string ⟨#[]⟩, .string ⟨#[]⟩, .string ⟨#[]⟩, .bool false, .bool false, .bool false, .bool false] 42 zeroLk rfl
  have hB : Below w.heap.size w (((w.alloc (.cells #[.string a0, .string b0, .string c0, .string d0, .string f0, .bool x0, .bool y0, .bool z0, .bool u0] 42)).alloc (.cells #[.string a1, .string b1, .string c1, .string d1, .string f1, .bool x1, .bool y1, .bool z1, .bool u1] 42)).alloc (.cells #[.string ⟨#[]⟩, .string ⟨#[]⟩, .string ⟨#[]⟩, .string ⟨#[]⟩, .string ⟨#[]⟩, .bool false, .bool false, .bool false, .bool false] 42)) := (((Below.refl _ _).alloc (Nat.le_refl _) _).alloc (by simp) _).alloc (by simp; omega) _
  rw [World.size_alloc] at hQ
  rw [World.size_alloc, World.size_alloc] at hR
  go_enter Tryz.func14, Tryz.ntmps14
  go_upto_region 1 with fail
  obtain ⟨w1, hw1⟩ : ∃ w1, (((w.alloc (.cells #[.string a0, .string b0, .string c0, .string d0, .string f0, .bool x0, .bool y0, .bool z0, .bool u0] 42)).alloc (.cells #[.string a1, .string b1, .string c1, .string d1, .string f1, .bool x1, .bool y1, .bool z1, .bool u1] 42)).alloc (.cells #[.string ⟨#[]⟩, .string ⟨#[]⟩, .string ⟨#[]⟩, .string ⟨#[]⟩, .string ⟨#[]⟩, .bool false, .bool false, .bool false, .bool false] 42)) = w1 := ⟨_, rfl⟩
  rw [hw1] at hP hQ hR hB ⊢
  obtain ⟨P, hPe⟩ : ∃ P, w.heap.size = P := ⟨_, rfl⟩
  rw [hPe] at hP hQ hR
  obtain ⟨Q, hQe⟩ : ∃ Q, P + 1 = Q := ⟨_, rfl⟩
  rw [hQe] at hQ hR
  obtain ⟨R, hRe⟩ : ∃ R, Q + 1 = R := ⟨_, rfl⟩
  rw [hRe] at hR
  try rw [hPe]
  try rw [hQe]
  try rw [hRe]
  have hlP := hP.lt
  have hlQ := hQ.lt
  have hlR := hR.lt
  have hset : ∀ (x : BW w1) a v, x.world.cell? a = some v → x.world.setCell a v = x.world := fun x a v h => setCell_self h
  have p0 : ∀ x : BW w1, x.world.cell? ⟨P, 0, none⟩ = some _ := fun x => (x.ok.cell (p := ⟨P, 0, none⟩) hlP).trans (hP.cell (j := 0) rfl)
  have q0 : ∀ x : BW w1, x.world.cell? ⟨Q, 0, none⟩ = some _ := fun x => (x.ok.cell (p := ⟨Q, 0, none⟩) hlQ).trans (hQ.cell (j := 0) rfl)
  have fp0 : ∀ x : BW w1, x.world.frozen? ⟨P, 0, none⟩ = false := fun x => (x.ok.frozen (p := ⟨P, 0, none⟩) hlP).trans (hP.frozen (j := 0) (by simp [row9]))
  have fq0 : ∀ x : BW w1, x.world.frozen? ⟨Q, 0, none⟩ = false := fun x => (x.ok.frozen (p := ⟨Q, 0, none⟩) hlQ).trans (hQ.frozen (j := 0) (by simp [row9]))
  have p1 : ∀ x : BW w1, x.world.cell? ⟨P, 1, none⟩ = some _ := fun x => (x.ok.cell (p := ⟨P, 1, none⟩) hlP).trans (hP.cell (j := 1) rfl)
  have q1 : ∀ x : BW w1, x.world.cell? ⟨Q, 1, none⟩ = some _ := fun x => (x.ok.cell (p := ⟨Q, 1, none⟩) hlQ).trans (hQ.cell (j := 1) rfl)
  have fp1 : ∀ x : BW w1, x.world.frozen? ⟨P, 1, none⟩ = false := fun x => (x.ok.frozen (p := ⟨P, 1, none⟩) hlP).trans (hP.frozen (j := 1) (by simp [row9]))
  have fq1 : ∀ x : BW w1, x.world.frozen? ⟨Q, 1, none⟩ = false := fun x => (x.ok.frozen (p := ⟨Q, 1, none⟩) hlQ).trans (hQ.frozen (j := 1) (by simp [row9]))
  have p2 : ∀ x : BW w1, x.world.cell? ⟨P, 2, none⟩ = some _ := fun x => (x.ok.cell (p := ⟨P, 2, none⟩) hlP).trans (hP.cell (j := 2) rfl)
  have q2 : ∀ x : BW w1, x.world.cell? ⟨Q, 2, none⟩ = some _ := fun x => (x.ok.cell (p := ⟨Q, 2, none⟩) hlQ).trans (hQ.cell (j := 2) rfl)
  have fp2 : ∀ x : BW w1, x.world.frozen? ⟨P, 2, none⟩ = false := fun x => (x.ok.frozen (p := ⟨P, 2, none⟩) hlP).trans (hP.frozen (j := 2) (by simp [row9]))
  have fq2 : ∀ x : BW w1, x.world.frozen? ⟨Q, 2, none⟩ = false := fun x => (x.ok.frozen (p := ⟨Q, 2, none⟩) hlQ).trans (hQ.frozen (j := 2) (by simp [row9]))
  have p3 : ∀ x : BW w1, x.world.cell? ⟨P, 3, none⟩ = some _ := fun x => (x.ok.cell (p := ⟨P, 3, none⟩) hlP).trans (hP.cell (j := 3) rfl)
  have q3 : ∀ x : BW w1, x.world.cell? ⟨Q, 3, none⟩ = some _ := fun x => (x.ok.cell (p := ⟨Q, 3, none⟩) hlQ).trans (hQ.cell (j := 3) rfl)
  have fp3 : ∀ x : BW w1, x.world.frozen? ⟨P, 3, none⟩ = false := fun x => (x.ok.frozen (p := ⟨P, 3, none⟩) hlP).trans (hP.frozen (j := 3) (by simp [row9]))
  have fq3 : ∀ x : BW w1, x.world.frozen? ⟨Q, 3, none⟩ = false := fun x => (x.ok.frozen (p := ⟨Q, 3, none⟩) hlQ).trans (hQ.frozen (j := 3) (by simp [row9]))
  have p4 : ∀ x : BW w1, x.world.cell? ⟨P, 4, none⟩ = some _ := fun x => (x.ok.cell (p := ⟨P, 4, none⟩) hlP).trans (hP.cell (j := 4) rfl)
  have q4 : ∀ x : BW w1, x.world.cell? ⟨Q, 4, none⟩ = some _ := fun x => (x.ok.cell (p := ⟨Q, 4, none⟩) hlQ).trans (hQ.cell (j := 4) rfl)
  have fp4 : ∀ x : BW w1, x.world.frozen? ⟨P, 4, none⟩ = false := fun x => (x.ok.frozen (p := ⟨P, 4, none⟩) hlP).trans (hP.frozen (j := 4) (by simp [row9]))
  have fq4 : ∀ x : BW w1, x.world.frozen? ⟨Q, 4, none⟩ = false := fun x => (x.ok.frozen (p := ⟨Q, 4, none⟩) hlQ).trans (hQ.frozen (j := 4) (by simp [row9]))
  have p5 : ∀ x : BW w1, x.world.cell? ⟨P, 5, none⟩ = some _ := fun x => (x.ok.cell (p := ⟨P, 5, none⟩) hlP).trans (hP.cell (j := 5) rfl)
  have q5 : ∀ x : BW w1, x.world.cell? ⟨Q, 5, none⟩ = some _ := fun x => (x.ok.cell (p := ⟨Q, 5, none⟩) hlQ).trans (hQ.cell (j := 5) rfl)
  have fp5 : ∀ x : BW w1, x.world.frozen? ⟨P, 5, none⟩ = false := fun x => (x.ok.frozen (p := ⟨P, 5, none⟩) hlP).trans (hP.frozen (j := 5) (by simp [row9]))
  have fq5 : ∀ x : BW w1, x.world.frozen? ⟨Q, 5, none⟩ = false := fun x => (x.ok.frozen (p := ⟨Q, 5, none⟩) hlQ).trans (hQ.frozen (j := 5) (by simp [row9]))
  have p6 : ∀ x : BW w1, x.world.cell? ⟨P, 6, none⟩ = some _ := fun x => (x.ok.cell (p := ⟨P, 6, none⟩) hlP).trans (hP.cell (j := 6) rfl)
  have q6 : ∀ x : BW w1, x.world.cell? ⟨Q, 6, none⟩ = some _ := fun x => (x.ok.cell (p := ⟨Q, 6, none⟩) hlQ).trans (hQ.cell (j := 6) rfl)
  have fp6 : ∀ x : BW w1, x.world.frozen? ⟨P, 6, none⟩ = false := fun x => (x.ok.frozen (p := ⟨P, 6, none⟩) hlP).trans (hP.frozen (j := 6) (by simp [row9]))
  have fq6 : ∀ x : BW w1, x.world.frozen? ⟨Q, 6, none⟩ = false := fun x => (x.ok.frozen (p := ⟨Q, 6, none⟩) hlQ).trans (hQ.frozen (j := 6) (by simp [row9]))
  have p7 : ∀ x : BW w1, x.world.cell? ⟨P, 7, none⟩ = some _ := fun x => (x.ok.cell (p := ⟨P, 7, none⟩) hlP).trans (hP.cell (j := 7) rfl)
  have q7 : ∀ x : BW w1, x.world.cell? ⟨Q, 7, none⟩ = some _ := fun x => (x.ok.cell (p := ⟨Q, 7, none⟩) hlQ).trans (hQ.cell (j := 7) rfl)
  have fp7 : ∀ x : BW w1, x.world.frozen? ⟨P, 7, none⟩ = false := fun x => (x.ok.frozen (p := ⟨P, 7, none⟩) hlP).trans (hP.frozen (j := 7) (by simp [row9]))
  have fq7 : ∀ x : BW w1, x.world.frozen? ⟨Q, 7, none⟩ = false := fun x => (x.ok.frozen (p := ⟨Q, 7, none⟩) hlQ).trans (hQ.frozen (j := 7) (by simp [row9]))
  have p8 : ∀ x : BW w1, x.world.cell? ⟨P, 8, none⟩ = some _ := fun x => (x.ok.cell (p := ⟨P, 8, none⟩) hlP).trans (hP.cell (j := 8) rfl)
  have q8 : ∀ x : BW w1, x.world.cell? ⟨Q, 8, none⟩ = some _ := fun x => (x.ok.cell (p := ⟨Q, 8, none⟩) hlQ).trans (hQ.cell (j := 8) rfl)
  have fp8 : ∀ x : BW w1, x.world.frozen? ⟨P, 8, none⟩ = false := fun x => (x.ok.frozen (p := ⟨P, 8, none⟩) hlP).trans (hP.frozen (j := 8) (by simp [row9]))
  have fq8 : ∀ x : BW w1, x.world.frozen? ⟨Q, 8, none⟩ = false := fun x => (x.ok.frozen (p := ⟨Q, 8, none⟩) hlQ).trans (hQ.frozen (j := 8) (by simp [row9]))
  have HP := Lib.hid hP
  have HQ := Lib.hid hQ
  have HR := Lib.hid hR
  have HB := Lib.hid hB
  have HW1 := Lib.hid hw1
  have HPe := Lib.hid hPe
  have HQe := Lib.hid hQe
  have HRe := Lib.hid hRe
  clear hP hQ hR hB hw1 hPe hQe hRe
  refine wp_region_bw (by kernel_rfl) (by kernel_rfl) ?_
  repeat (go_big_quiet_step (first | (go_at_call_of 40 a0; exact bw_call (hm0 _)) | (go_at_call_of 40 a1; exact bw_call (hm1 _))))
  refine wpQuiet_nil ?_
  intro _ hw'
  obtain ⟨nx, hw''⟩ := hw'
  subst hw''
  have hP2 := HP.out.below nx.ok hlP
  have hQ2 := HQ.out.below nx.ok hlQ
  have hR2 := HR.out.below nx.ok hlR
  have hB2 : Below w.heap.size w nx.world := HB.out.trans (nx.ok.mono HB.out.size)
  clear p0 q0 fp0 fq0 p1 q1 fp1 fq1 p2 q2 fp2 fq2 p3 q3 fp3 fq3 p4 q4 fp4 fq4 p5 q5 fp5 fq5 p6 q6 fp6 fq6 p7 q7 fp7 fq7 p8 q8 fp8 fq8 hset HP HQ HR HB HW1 hlP hlQ hlR
  obtain ⟨w2, hw2⟩ : ∃ w2, nx.world = w2 := ⟨_, rfl⟩
  rw [hw2] at hP2 hQ2 hR2 hB2 ⊢
  clear hw2 nx
  have hP3 := hP2.alloc (.cells #[.string ⟨#[]⟩, .string ⟨#[]⟩, .string ⟨#[]⟩, .string ⟨#[]⟩, .string ⟨#[]⟩, .bool false, .bool false, .bool false, .bool false] 42)
  have hQ3 := hQ2.alloc (.cells #[.string ⟨#[]⟩, .string ⟨#[]⟩, .string ⟨#[]⟩, .string ⟨#[]⟩, .string ⟨#[]⟩, .bool false, .bool false, .bool false, .bool false] 42)
  have hR3 := hR2.alloc (.cells #[.string ⟨#[]⟩, .string ⟨#[]⟩, .string ⟨#[]⟩, .string ⟨#[]⟩, .string ⟨#[]⟩, .bool false, .bool false, .bool false, .bool false] 42)
  have hT3 := RowAt.new w2 #[.string ⟨#[]⟩, .string ⟨#[]⟩, .string ⟨#[]⟩, .string ⟨#[]⟩, .string ⟨#[]⟩, .bool false, .bool false, .bool false, .bool false] 42 zeroLk rfl
  have hB3 := hB2.alloc hB2.size (.cells #[.string ⟨#[]⟩, .string ⟨#[]⟩, .string ⟨#[]⟩, .string ⟨#[]⟩, .string ⟨#[]⟩, .bool false, .bool false, .bool false, .bool false] 42)
  have hlR2 := hR2.lt
  obtain ⟨T, hT⟩ : ∃ T, w2.heap.size = T := ⟨_, rfl⟩
  rw [hT] at hT3 hlR2
  have hrs : RsAt w (w2.alloc (.cells #[.string ⟨#[]⟩, .string ⟨#[]⟩, .string ⟨#[]⟩, .string ⟨#[]⟩, .string ⟨#[]⟩, .bool false, .bool false, .bool false, .bool false] 42)) P Q R T (row9 a0 b0 c0 d0 f0 x0 y0 z0 u0) (row9 a1 b1 c1 d1 f1 x1 y1 z1 u1) zeroLk := ⟨hP3, hQ3, hR3, hT3, hB3⟩
  have HRS := Lib.hid hrs
  have HTe := Lib.hid hT
  have hwP : w.heap.size ≤ P := Nat.le_of_eq HPe.out
  have hPQ : P < Q := by have := HQe.out; omega
  have hQR : Q < R := by have := HRe.out; omega
  have hwT : w.heap.size ≤ T := by omega
  have hPT : P < T := by omega
  have hQT : Q < T := by omega
  clear hP3 hQ3 hR3 hT3 hB3 hP2 hQ2 hR2 hB2 hrs hT hPQ hQR hwP
  go_upto_region 3 with fail
  rw [(HTe.out : w2.heap.size = T)]
  have hrs := HRS.out
  obtain ⟨w3, hw3⟩ : ∃ w3, w2.alloc (.cells #[.string ⟨#[]⟩, .string ⟨#[]⟩, .string ⟨#[]⟩, .string ⟨#[]⟩, .string ⟨#[]⟩, .bool false, .bool false, .bool false, .bool false] 42) = w3 := ⟨_, rfl⟩
  rw [hw3] at hrs ⊢
  have HS := Lib.hid hrs
  clear HRS hw3 HTe
  go_cut [5] (fun p wx => p = .pointer (some ⟨T, 0, none⟩) ∧ RsAt w wx P Q R T (row9 a0 b0 c0 d0 f0 x0 y0 z0 u0) (row9 a1 b1 c1 d1 f1 x1 y1 z1 u1) (row9 ⟨#[]⟩ ⟨#[]⟩ ⟨#[]⟩ ⟨#[]⟩ f1 false false false u1))
  case first =>
    have q4 := hrs.2.1.cell (j := 4) rfl
    have q8 := hrs.2.1.cell (j := 8) rfl
    have t4 := hrs.2.2.2.1.cell (j := 4) rfl
    have t8 := hrs.2.2.2.1.cell (j := 8) rfl
    have fz4 := hrs.2.2.2.1.frozen (j := 4) (by decide)
    have fz8 := hrs.2.2.2.1.frozen (j := 8) (by decide)
    have hne1 : ¬ T = Q := by omega
    have hne2 : ¬ Q = T := by omega
    clear hrs
    go_region
    all_goals
      go_wp2_with fail
      go_meet
      case rel => exact ⟨rfl, ((HS.out.set hwT hPT hQT hlR2 4 (.string f1)).set hwT hPT hQT hlR2 8 (.bool u1)).drew⟩
  case rest =>
    obtain ⟨rfl, hrs⟩ := hcut
    have HS := Lib.hid hrs
    clear hrs
    obtain ⟨wz, hwz⟩ : ∃ wz, wz = wc := ⟨_, rfl⟩
    subst hwz
    have hlT := HS.out.2.2.2.1.lt
    have hG0 := RowAt.new wz (fnsL Q T).toArray 1 (fnsL Q T) (List.take_length)
    have hB0 := (Below.refl wz.heap.size wz).alloc (Nat.le_refl _) (.cells (fnsL Q T).toArray 1)
    have hS0 := HS.out.later hB0
    obtain ⟨W, hW⟩ : ∃ W, wz.alloc (.cells (fnsL Q T).toArray 1) = W := ⟨_, rfl⟩
    obtain ⟨G, hG⟩ : ∃ G, wz.heap.size = G := ⟨_, rfl⟩
    rw [hW, hG] at hG0
    rw [hW] at hS0
    rw [hG] at hlT
    have hW' : wz.alloc (.cells #[.func (.func 41) #[] #[], .func (.func 42) #[] #[.pointer (some ⟨Q, 0, none⟩), .pointer (some ⟨T, 0, none⟩)], .func (.func 43) #[] #[.pointer (some ⟨Q, 0, none⟩), .pointer (some ⟨T, 0, none⟩)], .func (.func 45) #[] #[.pointer (some ⟨Q, 0, none⟩), .pointer (some ⟨T, 0, none⟩)], .func (.func 46) #[] #[.pointer (some ⟨Q, 0, none⟩), .pointer (some ⟨T, 0, none⟩)]] 1) = W := hW
    have HG0 := Lib.hid hG0
    have HS0 := Lib.hid hS0
    have HW := Lib.hid hW'
    have HGe := Lib.hid hG
    clear hG0 hS0 hB0 hW hW' hG
    go_upto_block 0 with fail
    rw [HW.out, HGe.out]
    go_wp2_with fail
    go_loopw [26, 8] (fun i _ wr => ∃ (k : Nat) (row : List Value), k ≤ 5 ∧ i = .int .i64 k ∧ RsAt w wr P Q R T (row9 a0 b0 c0 d0 f0 x0 y0 z0 u0) (row9 a1 b1 c1 d1 f1 x1 y1 z1 u1) row ∧ RowV row ∧ RowAt wr G (fnsL Q T)) (fun i _ _ => 5 - (RowKit.intOf i).toNat)
    case atStart => exact ⟨0, _, Nat.zero_le _, rfl, HS0.out, ⟨_, _, _, _, _, _, _, _, _, rfl, Vk.nil, Vk.nil, Vk.nil, Vk.nil, kf⟩, HG0.out⟩
    case round =>
      obtain ⟨k, row, hk, rfl, hrs, hrv, hgr⟩ := hrel
      have HS1 := Lib.hid hrs
      have HG1 := Lib.hid hgr
      by_cases hlt : k < 5
      · obtain ⟨fid, args, hfn, hent, hst⟩ := step_any x1 y1 z1 u1 Q T wr ka kb kc kd kf hrs.2.1 hrs.2.2.2.1 hrv (by omega) k hlt
        have hcell := hgr.cell hfn
        have hkI : (k : Int) < 5 := by omega
        clear hrs hrv hgr hfn
        go_upto_region 9 with (refine hst.mono ?_; rintro e w4 ⟨rfl, row', hrv, hrt, hon⟩)
        obtain ⟨A, B, C, D, F, X, Y, Z, U, rfl, hA, hB, hC, hD, hF⟩ := hrv
        have hrs4 : RsAt w w4 P Q R T (row9 a0 b0 c0 d0 f0 x0 y0 z0 u0) (row9 a1 b1 c1 d1 f1 x1 y1 z1 u1) (row9 A B C D F X Y Z U) := ⟨hon.row HS1.out.1 (by omega), hon.row HS1.out.2.1 (by omega), hon.row HS1.out.2.2.1 (by omega), hrt, HS1.out.2.2.2.2.trans (hon.2.2.mono hwT)⟩
        have HG4 := Lib.hid (hon.row HG1.out (by omega))
        have HS4 := Lib.hid hrs4
        have hres := HRES.out A B C D F X Y Z U hA hB hC hD hF
        obtain ⟨A2, B2, C2, D2, F2, X2, Y2, Z2, U2, hrf⟩ := resF_row a0 b0 c0 d0 A B C D F x0 y0 z0 X Y Z U
        rw [hrf] at hres
        have hres' : ∀ w, Calls Tryz.prog 15 #[.agg #[.string a0, .string b0, .string c0, .string d0, .string f0, .bool x0, .bool y0, .bool z0, .bool u0], .agg #[.string A, .string B, .string C, .string D, .string F, .bool X, .bool Y, .bool Z, .bool U]] w fun e w' => e = .returned (.agg #[.string A2, .string B2, .string C2, .string D2, .string F2, .bool X2, .bool Y2, .bool Z2, .bool U2]) ∧ Below w.heap.size w w' := hres
        clear hres
        obtain ⟨E, hE, heq⟩ := cmp9 A2 B2 C2 D2 F2 a1 b1 c1 d1 f1 X2 Y2 Z2 U2 x1 y1 z1 u1
        have HE := Lib.hid hE
        clear hE
        have HRF := Lib.hid hrf
        clear hrs4 hrt hon hrf
        go_cut [36] (fun v wx => v = .bool E ∧ RsAt w wx P Q R T (row9 a0 b0 c0 d0 f0 x0 y0 z0 u0) (row9 a1 b1 c1 d1 f1 x1 y1 z1 u1) (row9 A B C D F X Y Z U) ∧ RowAt wx G (fnsL Q T))
        case first =>
          have hd4 := HS4.out.drew
          have p0 := hd4.1.cell (j := 0) rfl
          have p1 := hd4.1.cell (j := 1) rfl
          have p2 := hd4.1.cell (j := 2) rfl
          have p3 := hd4.1.cell (j := 3) rfl
          have p4 := hd4.1.cell (j := 4) rfl
          have p5 := hd4.1.cell (j := 5) rfl
          have p6 := hd4.1.cell (j := 6) rfl
          have p7 := hd4.1.cell (j := 7) rfl
          have p8 := hd4.1.cell (j := 8) rfl
          have q0 := hd4.2.1.cell (j := 0) rfl
          have q1 := hd4.2.1.cell (j := 1) rfl
          have q2 := hd4.2.1.cell (j := 2) rfl
          have q3 := hd4.2.1.cell (j := 3) rfl
          have q4 := hd4.2.1.cell (j := 4) rfl
          have q5 := hd4.2.1.cell (j := 5) rfl
          have q6 := hd4.2.1.cell (j := 6) rfl
          have q7 := hd4.2.1.cell (j := 7) rfl
          have q8 := hd4.2.1.cell (j := 8) rfl
          have t0 := hd4.2.2.2.1.cell (j := 0) rfl
          have t1 := hd4.2.2.2.1.cell (j := 1) rfl
          have t2 := hd4.2.2.2.1.cell (j := 2) rfl
          have t3 := hd4.2.2.2.1.cell (j := 3) rfl
          have t4 := hd4.2.2.2.1.cell (j := 4) rfl
          have t5 := hd4.2.2.2.1.cell (j := 5) rfl
          have t6 := hd4.2.2.2.1.cell (j := 6) rfl
          have t7 := hd4.2.2.2.1.cell (j := 7) rfl
          have t8 := hd4.2.2.2.1.cell (j := 8) rfl
          have HD4 := Lib.hid hd4
          clear hd4
          go_region_law (go_simp; go_at_call 15; refine (hres' _).mono ?_; rintro e w5 ⟨rfl, hb5⟩; have hs5 := HD4.out.later hb5; have HG5 := Lib.hid ((HG4.out.drew).below hb5 HG4.out.drew.lt); have r0 := hs5.2.1.cell (j := 0) rfl; have r1 := hs5.2.1.cell (j := 1) rfl; have r2 := hs5.2.1.cell (j := 2) rfl; have r3 := hs5.2.1.cell (j := 3) rfl; have r4 := hs5.2.1.cell (j := 4) rfl; have r5 := hs5.2.1.cell (j := 5) rfl; have r6 := hs5.2.1.cell (j := 6) rfl; have r7 := hs5.2.1.cell (j := 7) rfl; have r8 := hs5.2.1.cell (j := 8) rfl; have HS5 := Lib.hid hs5; clear hs5 hb5)
          all_goals
            go_wp2_with fail
            go_meet
            case rel => exact ⟨rfl, HS5.out, HG5.out⟩
        case rest =>
          obtain ⟨rfl, hs6, hg6⟩ := hcut
          have HS6 := Lib.hid hs6
          have HG6 := Lib.hid hg6
          clear heq hres'
          cases E
          · clear hs6 hg6
            go_wp2_with fail
            go_roundw
            case rel => exact ⟨k + 1, _, by omega, by go_num, HS6.out, ⟨_, _, _, _, _, _, _, _, _, rfl, hA, hB, hC, hD, hF⟩, HG6.out⟩
            case measure => simp [RowKit.intOf]; omega
          · have hfin := HE.out.1 rfl
            have t0 := hs6.2.2.2.1.cell (j := 0) rfl
            have t1 := hs6.2.2.2.1.cell (j := 1) rfl
            have t2 := hs6.2.2.2.1.cell (j := 2) rfl
            have t3 := hs6.2.2.2.1.cell (j := 3) rfl
            have t4 := hs6.2.2.2.1.cell (j := 4) rfl
            have t5 := hs6.2.2.2.1.cell (j := 5) rfl
            have t6 := hs6.2.2.2.1.cell (j := 6) rfl
            have t7 := hs6.2.2.2.1.cell (j := 7) rfl
            have t8 := hs6.2.2.2.1.cell (j := 8) rfl
            have r0 := hs6.2.2.1.cell (j := 0) rfl
            have r1 := hs6.2.2.1.cell (j := 1) rfl
            have r2 := hs6.2.2.1.cell (j := 2) rfl
            have r3 := hs6.2.2.1.cell (j := 3) rfl
            have r4 := hs6.2.2.1.cell (j := 4) rfl
            have r5 := hs6.2.2.1.cell (j := 5) rfl
            have r6 := hs6.2.2.1.cell (j := 6) rfl
            have r7 := hs6.2.2.1.cell (j := 7) rfl
            have r8 := hs6.2.2.1.cell (j := 8) rfl
            have fr0 := hs6.2.2.1.frozen (j := 0) (by decide)
            have fr1 := hs6.2.2.1.frozen (j := 1) (by decide)
            have fr2 := hs6.2.2.1.frozen (j := 2) (by decide)
            have fr3 := hs6.2.2.1.frozen (j := 3) (by decide)
            have fr4 := hs6.2.2.1.frozen (j := 4) (by decide)
            have fr5 := hs6.2.2.1.frozen (j := 5) (by decide)
            have fr6 := hs6.2.2.1.frozen (j := 6) (by decide)
            have fr7 := hs6.2.2.1.frozen (j := 7) (by decide)
            have fr8 := hs6.2.2.1.frozen (j := 8) (by decide)
            clear hs6
            go_wp2_with fail
            refine bodyPost_ret (v := .agg #[.string A, .string B, .string C, .string D, .string F, .bool X, .bool Y, .bool Z, .bool U]) (by simp [results, Tryz.results14, go_sem, r0, r1, r2, r3, r4, r5, r6, r7, r8]) rfl (RelOut.mk A B C D F X Y Z U ⟨hA, hB, hC, hD, hF⟩ (.inl (HRF.out.trans hfin)) ?_)
            have hwR : w.heap.size ≤ R := by have := HPe.out; have := HQe.out; have := HRe.out; omega
            iterate 9 (refine Below.setCell ?_ hwR _)
            exact HS6.out.2.2.2.2
      · obtain rfl : k = 5 := by omega
        clear hgr hrv
        have t0 := hrs.2.1.cell (j := 0) rfl
        have t1 := hrs.2.1.cell (j := 1) rfl
        have t2 := hrs.2.1.cell (j := 2) rfl
        have t3 := hrs.2.1.cell (j := 3) rfl
        have t4 := hrs.2.1.cell (j := 4) rfl
        have t5 := hrs.2.1.cell (j := 5) rfl
        have t6 := hrs.2.1.cell (j := 6) rfl
        have t7 := hrs.2.1.cell (j := 7) rfl
        have t8 := hrs.2.1.cell (j := 8) rfl
        have r0 := hrs.2.2.1.cell (j := 0) rfl
        have r1 := hrs.2.2.1.cell (j := 1) rfl
        have r2 := hrs.2.2.1.cell (j := 2) rfl
        have r3 := hrs.2.2.1.cell (j := 3) rfl
        have r4 := hrs.2.2.1.cell (j := 4) rfl
        have r5 := hrs.2.2.1.cell (j := 5) rfl
        have r6 := hrs.2.2.1.cell (j := 6) rfl
        have r7 := hrs.2.2.1.cell (j := 7) rfl
        have r8 := hrs.2.2.1.cell (j := 8) rfl
        have fr0 := hrs.2.2.1.frozen (j := 0) (by decide)
        have fr1 := hrs.2.2.1.frozen (j := 1) (by decide)
        have fr2 := hrs.2.2.1.frozen (j := 2) (by decide)
        have fr3 := hrs.2.2.1.frozen (j := 3) (by decide)
        have fr4 := hrs.2.2.1.frozen (j := 4) (by decide)
        have fr5 := hrs.2.2.1.frozen (j := 5) (by decide)
        have fr6 := hrs.2.2.1.frozen (j := 6) (by decide)
        have fr7 := hrs.2.2.1.frozen (j := 7) (by decide)
        have fr8 := hrs.2.2.1.frozen (j := 8) (by decide)
        clear hrs
        go_wp2_with fail
        refine bodyPost_ret (v := .agg #[.string a1, .string b1, .string c1, .string d1, .string f1, .bool x1, .bool y1, .bool z1, .bool u1]) (by simp [results, Tryz.results14, go_sem, r0, r1, r2, r3, r4, r5, r6, r7, r8]) rfl (RelOut.mk a1 b1 c1 d1 f1 x1 y1 z1 u1 ⟨ka, kb, kc, kd, kf⟩ (.inr rfl) ?_)
        have hwR : w.heap.size ≤ R := by have := HPe.out; have := HQe.out; have := HRe.out; omega
        iterate 9 (refine Below.setCell ?_ hwR _)
        exact HS1.out.2.2.2.2
end Go.Proofs.YtabagfhnkdhjdaaGreatDoor
