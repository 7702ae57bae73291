/- link.Resolve: the walk. -/
import Derived.Test.YtabagfhnkdhjdaaGreatDoorQuery
import Derived.Deep.RegionHeld3
set_option linter.unusedVariables false
set_option maxRecDepth 100000
namespace Go.Proofs.YtabagfhnkdhjdaaGreatDoor
open Go.RowKit Go.Lib Go.BigFrame

def row9 (a b c d f : ByteArray) (x y z u : Bool) : List Value := [.string a, .string b, .string c, .string d, .string f, .bool x, .bool y, .bool z, .bool u]

def eS : ByteArray := ⟨#[]⟩
def dS (c : ByteArray) : ByteArray := ⟨(dots c.data.toList).toArray⟩
def mS (y : Bool) (c p : ByteArray) : ByteArray := ⟨(mergedL y c.data.toList p.data.toList).toArray⟩
theorem mS_size (y : Bool) (c p : ByteArray) (hc : c.size ≤ 100000000) (hp : p.size ≤ 100000000) : (mS y c p).size ≤ 200000100 := by
  rw [size_eq]
  show (mergedL y c.data.toList p.data.toList).length ≤ _
  rw [size_eq] at hc hp
  unfold mergedL
  split
  · simp at hp ⊢; omega
  · rw [List.length_append, List.length_take]; omega
/-- What the switch lays, but for the scheme and the fragment. -/
def resT (b0 c0 d0 a1 b1 c1 d1 f1 : ByteArray) (y0 z0 x1 y1 z1 u1 : Bool) : List Value :=
  if x1 then row9 a1 b1 (dS c1) d1 f1 true y1 z1 u1
  else if y1 then row9 eS b1 (dS c1) d1 eS false true z1 false
  else if c1.data.toList = [] then (if z1 then row9 eS b0 c0 d1 eS false y0 true false else row9 eS b0 c0 d0 eS false y0 z0 false)
  else row9 eS b0 (if c1.data.toList.head? = some 47 then dS c1 else dS (mS y0 c0 c1)) d1 eS false y0 z1 false

/-- The whole. -/
def resF (a0 b0 c0 d0 a1 b1 c1 d1 f1 : ByteArray) (x0 y0 z0 x1 y1 z1 u1 : Bool) : List Value :=
  ((if x1 then resT b0 c0 d0 a1 b1 c1 d1 f1 y0 z0 x1 y1 z1 u1 else ((resT b0 c0 d0 a1 b1 c1 d1 f1 y0 z0 x1 y1 z1 u1).set 0 (.string a0)).set 5 (.bool x0)).set 4 (.string f1)).set 8 (.bool u1)
theorem resT_row (b0 c0 d0 a1 b1 c1 d1 f1 : ByteArray) (y0 z0 x1 y1 z1 u1 : Bool) : ∃ A B C D F X Y Z U, resT b0 c0 d0 a1 b1 c1 d1 f1 y0 z0 x1 y1 z1 u1 = row9 A B C D F X Y Z U := by
  unfold resT
  split
  · exact ⟨_, _, _, _, _, _, _, _, _, rfl⟩
  split
  · exact ⟨_, _, _, _, _, _, _, _, _, rfl⟩
  split
  · split <;> exact ⟨_, _, _, _, _, _, _, _, _, rfl⟩
  · exact ⟨_, _, _, _, _, _, _, _, _, rfl⟩

/-- The four rows that the walk keeps: the base, the reference, the result, what is laid together. -/
def RsAt (w wx : World) (P Q R T : Nat) (rp rq rt : List Value) : Prop := RowAt wx P rp ∧ RowAt wx Q rq ∧ RowAt wx R zeroLk ∧ RowAt wx T rt ∧ Below w.heap.size w wx
theorem RsAt.later {w wx wy : World} {P Q R T : Nat} {rp rq rt : List Value} (h : RsAt w wx P Q R T rp rq rt) (hb : Below wx.heap.size wx wy) : RsAt w wy P Q R T rp rq rt :=
  ⟨h.1.below hb h.1.lt, h.2.1.below hb h.2.1.lt, h.2.2.1.below hb h.2.2.1.lt, h.2.2.2.1.below hb h.2.2.2.1.lt, h.2.2.2.2.trans (hb.mono h.2.2.2.2.size)⟩
theorem RsAt.set {w wx : World} {P Q R T : Nat} {rp rq rt : List Value} (h : RsAt w wx P Q R T rp rq rt) (hw : w.heap.size ≤ T) (h1 : P < T) (h2 : Q < T) (h3 : R < T) (j : Nat) (v : Value) : RsAt w (wx.setCell ⟨T, j, none⟩ v) P Q R T rp rq (rt.set j v) :=
  ⟨h.1.other (by simp; omega) v, h.2.1.other (by simp; omega) v, h.2.2.1.other (by simp; omega) v, h.2.2.2.1.set j v, h.2.2.2.2.setCell (p := ⟨T, j, none⟩) hw v⟩
theorem RsAt.drew {w wx : World} {P Q R T : Nat} {rp rq rt : List Value} (h : RsAt w wx P Q R T rp rq rt) : RsAt w wx.drew P Q R T rp rq rt := ⟨h.1.drew, h.2.1.drew, h.2.2.1.drew, h.2.2.2.1.drew, h.2.2.2.2.drew⟩
/-- Behind a callee that may have written T. -/
theorem RsAt.query {w wx wy : World} {P Q R T : Nat} {rp rq rt rt' : List Value} (h : RsAt w wx P Q R T rp rq rt) (hw : w.heap.size ≤ T) (h1 : P < T) (h2 : Q < T) (h3 : R < T) (hr : RowAt wy T rt') (hb : Below T wx wy) : RsAt w wy P Q R T rp rq rt' :=
  ⟨h.1.below hb h1, h.2.1.below hb h2, h.2.2.1.below hb h3, hr, h.2.2.2.2.trans (hb.mono hw)⟩

/-- A cell that is written with what it holds. -/
theorem setCell_self {w : World} {a : Addr} {v : Value} (h : w.cell? a = some v) : w.setCell a v = w := by
  unfold World.cell? at h
  cases hb : w.heap[a.block]? with
  | none => rw [hb] at h; cases h
  | some o =>
    rw [hb] at h
    cases o with
    | cells c e fr =>
      simp only at h
      have hh : (w.setCell a v).heap = w.heap := by
        unfold World.setCell
        apply Array.ext_getElem?
        intro i
        rw [Array.getElem?_modify]
        by_cases hi : a.block = i
        · subst hi
          rw [if_pos rfl, hb]
          simp only [Option.map_some]
          by_cases hs : a.spot.isSome = true
          · rw [if_pos hs] at h; cases h
          · rw [if_neg hs] at h ⊢
            obtain ⟨hlt, hv⟩ := Array.getElem?_eq_some_iff.1 h
            rw [← hv, Array.setIfInBounds_def]
            simp
        · rw [if_neg hi]
      show ({ w with heap := (w.setCell a v).heap } : World) = w
      rw [hh]
    | _ => simp at h

set_option maxRecDepth 100000 in
set_option maxHeartbeats 1000000 in
theorem resolve_any (a0 b0 c0 d0 f0 a1 b1 c1 d1 f1 : ByteArray) (x0 y0 z0 u0 x1 y1 z1 u1 : Bool) (w : World)
    (hm0 : ∀ w, Calls Tryz.prog 40 #[.agg #[.string a0, .string b0, .string c0, .string d0, .string f0, .bool x0, .bool y0, .bool z0, .bool u0]] w fun e w' => e = .returned (.agg #[.string a0, .string b0, .string c0, .string d0, .string f0, .bool x0, .bool y0, .bool z0, .bool u0]) ∧ Below w.heap.size w w')
    (hm1 : ∀ w, Calls Tryz.prog 40 #[.agg #[.string a1, .string b1, .string c1, .string d1, .string f1, .bool x1, .bool y1, .bool z1, .bool u1]] w fun e w' => e = .returned (.agg #[.string a1, .string b1, .string c1, .string d1, .string f1, .bool x1, .bool y1, .bool z1, .bool u1]) ∧ Below w.heap.size w w')
    (hc0 : c0.size ≤ 100000000) (hc1 : c1.size ≤ 100000000) :
    Calls Tryz.prog 15 #[.agg #[.string a0, .string b0, .string c0, .string d0, .string f0, .bool x0, .bool y0, .bool z0, .bool u0], .agg #[.string a1, .string b1, .string c1, .string d1, .string f1, .bool x1, .bool y1, .bool z1, .bool u1]] w fun e w' => e = .returned (.agg (resF a0 b0 c0 d0 a1 b1 c1 d1 f1 x0 y0 z0 x1 y1 z1 u1).toArray) ∧ Below w.heap.size w w' := by
  have hP := (RowAt.new w #[.string a0, .string b0, .string c0, .string d0, .string f0, .bool x0, .bool y0, .bool z0, .bool u0] 42 (row9 a0 b0 c0 d0 f0 x0 y0 z0 u0) rfl).alloc (.cells #[.string a1, .string b1, .string c1, .string d1, .string f1, .bool x1, .bool y1, .bool z1, .bool u1] 42) |>.alloc (.cells #[.string ⟨#[]⟩, .string ⟨#[]⟩, .string ⟨#[]⟩, .string ⟨#[]⟩, .string ⟨#[]⟩, .bool false, .bool false, .bool false, .bool false] 42)
  have hQ := (RowAt.new (w.alloc (.cells #[.string a0, .string b0, .string c0, .string d0, .string f0, .bool x0, .bool y0, .bool z0, .bool u0] 42)) #[.string a1, .string b1, .string c1, .string d1, .string f1, .bool x1, .bool y1, .bool z1, .bool u1] 42 (row9 a1 b1 c1 d1 f1 x1 y1 z1 u1) rfl).alloc (.cells #[.string ⟨#[]⟩, .string ⟨#[]⟩, .string ⟨#[]⟩, .string ⟨#[]⟩, .string ⟨#[]⟩, .bool false, .bool false, .bool false, .bool false] 42)
  have hR := RowAt.new ((w.alloc (.cells #[.string a0, .string b0, .string c0, .string d0, .string f0, .bool x0, .bool y0, .bool z0, .bool u0] 42)).alloc (.cells #[.string a1, .string b1, .string c1, .string d1, .string f1, .bool x1, .bool y1, .bool z1, .bool u1] 42)) #[.string ⟨#[]⟩, .string ⟨#[]⟩, .string ⟨#[]⟩, .string ⟨#[]⟩, .string ⟨#[]⟩, .bool false, .bool false, .bool false, .bool false] 42 zeroLk rfl
  have hB : Below w.heap.size w (((w.alloc (.cells #[.string a0, .string b0, .string c0, .string d0, .string f0, .bool x0, .bool y0, .bool z0, .bool u0] 42)).alloc (.cells #[.string a1, .string b1, .string c1, .string d1, .string f1, .bool x1, .bool y1, .bool z1, .bool u1] 42)).alloc (.cells #[.string ⟨#[]⟩, .string ⟨#[]⟩, .string ⟨#[]⟩, .string ⟨#[]⟩, .string ⟨#[]⟩, .bool false, .bool false, .bool false, .bool false] 42)) := (((Below.refl _ _).alloc (Nat.le_refl _) _).alloc (by simp) _).alloc (by simp; omega) _
  rw [World.size_alloc] at hQ
  rw [World.size_alloc, World.size_alloc] at hR
  go_enter Tryz.func15, Tryz.ntmps15
  go_upto_region 1 with fail
  obtain ⟨w1, hw1⟩ : ∃ w1, (((w.alloc (.cells #[.string a0, .string b0, .string c0, .string d0, .string f0, .bool x0, .bool y0, .bool z0, .bool u0] 42)).alloc (.cells #[.string a1, .string b1, .string c1, .string d1, .string f1, .bool x1, .bool y1, .bool z1, .bool u1] 42)).alloc (.cells #[.string ⟨#[]⟩, .string ⟨#[]⟩, .string ⟨#[]⟩, .string ⟨#[]⟩, .string ⟨#[]⟩, .bool false, .bool false, .bool false, .bool false] 42)) = w1 := ⟨_, rfl⟩
  rw [hw1] at hP hQ hR hB ⊢
  obtain ⟨P, hPe⟩ : ∃ P, w.heap.size = P := ⟨_, rfl⟩
  rw [hPe] at hP hQ hR
  obtain ⟨Q, hQe⟩ : ∃ Q, P + 1 = Q := ⟨_, rfl⟩
  rw [hQe] at hQ hR
  obtain ⟨R, hRe⟩ : ∃ R, Q + 1 = R := ⟨_, rfl⟩
  rw [hRe] at hR
  try rw [hPe]
  try rw [hQe]
  try rw [hRe]
  have hlP := hP.lt
  have hlQ := hQ.lt
  have hlR := hR.lt
  have hset : ∀ (x : BW w1) a v, x.world.cell? a = some v → x.world.setCell a v = x.world := fun x a v h => setCell_self h
  have p0 : ∀ x : BW w1, x.world.cell? ⟨P, 0, none⟩ = some _ := fun x => (x.ok.cell (p := ⟨P, 0, none⟩) hlP).trans (hP.cell (j := 0) rfl)
  have q0 : ∀ x : BW w1, x.world.cell? ⟨Q, 0, none⟩ = some _ := fun x => (x.ok.cell (p := ⟨Q, 0, none⟩) hlQ).trans (hQ.cell (j := 0) rfl)
  have fp0 : ∀ x : BW w1, x.world.frozen? ⟨P, 0, none⟩ = false := fun x => (x.ok.frozen (p := ⟨P, 0, none⟩) hlP).trans (hP.frozen (j := 0) (by simp [row9]))
  have fq0 : ∀ x : BW w1, x.world.frozen? ⟨Q, 0, none⟩ = false := fun x => (x.ok.frozen (p := ⟨Q, 0, none⟩) hlQ).trans (hQ.frozen (j := 0) (by simp [row9]))
  have p1 : ∀ x : BW w1, x.world.cell? ⟨P, 1, none⟩ = some _ := fun x => (x.ok.cell (p := ⟨P, 1, none⟩) hlP).trans (hP.cell (j := 1) rfl)
  have q1 : ∀ x : BW w1, x.world.cell? ⟨Q, 1, none⟩ = some _ := fun x => (x.ok.cell (p := ⟨Q, 1, none⟩) hlQ).trans (hQ.cell (j := 1) rfl)
  have fp1 : ∀ x : BW w1, x.world.frozen? ⟨P, 1, none⟩ = false := fun x => (x.ok.frozen (p := ⟨P, 1, none⟩) hlP).trans (hP.frozen (j := 1) (by simp [row9]))
  have fq1 : ∀ x : BW w1, x.world.frozen? ⟨Q, 1, none⟩ = false := fun x => (x.ok.frozen (p := ⟨Q, 1, none⟩) hlQ).trans (hQ.frozen (j := 1) (by simp [row9]))
  have p2 : ∀ x : BW w1, x.world.cell? ⟨P, 2, none⟩ = some _ := fun x => (x.ok.cell (p := ⟨P, 2, none⟩) hlP).trans (hP.cell (j := 2) rfl)
  have q2 : ∀ x : BW w1, x.world.cell? ⟨Q, 2, none⟩ = some _ := fun x => (x.ok.cell (p := ⟨Q, 2, none⟩) hlQ).trans (hQ.cell (j := 2) rfl)
  have fp2 : ∀ x : BW w1, x.world.frozen? ⟨P, 2, none⟩ = false := fun x => (x.ok.frozen (p := ⟨P, 2, none⟩) hlP).trans (hP.frozen (j := 2) (by simp [row9]))
  have fq2 : ∀ x : BW w1, x.world.frozen? ⟨Q, 2, none⟩ = false := fun x => (x.ok.frozen (p := ⟨Q, 2, none⟩) hlQ).trans (hQ.frozen (j := 2) (by simp [row9]))
  have p3 : ∀ x : BW w1, x.world.cell? ⟨P, 3, none⟩ = some _ := fun x => (x.ok.cell (p := ⟨P, 3, none⟩) hlP).trans (hP.cell (j := 3) rfl)
  have q3 : ∀ x : BW w1, x.world.cell? ⟨Q, 3, none⟩ = some _ := fun x => (x.ok.cell (p := ⟨Q, 3, none⟩) hlQ).trans (hQ.cell (j := 3) rfl)
  have fp3 : ∀ x : BW w1, x.world.frozen? ⟨P, 3, none⟩ = false := fun x => (x.ok.frozen (p := ⟨P, 3, none⟩) hlP).trans (hP.frozen (j := 3) (by simp [row9]))
  have fq3 : ∀ x : BW w1, x.world.frozen? ⟨Q, 3, none⟩ = false := fun x => (x.ok.frozen (p := ⟨Q, 3, none⟩) hlQ).trans (hQ.frozen (j := 3) (by simp [row9]))
  have p4 : ∀ x : BW w1, x.world.cell? ⟨P, 4, none⟩ = some _ := fun x => (x.ok.cell (p := ⟨P, 4, none⟩) hlP).trans (hP.cell (j := 4) rfl)
  have q4 : ∀ x : BW w1, x.world.cell? ⟨Q, 4, none⟩ = some _ := fun x => (x.ok.cell (p := ⟨Q, 4, none⟩) hlQ).trans (hQ.cell (j := 4) rfl)
  have fp4 : ∀ x : BW w1, x.world.frozen? ⟨P, 4, none⟩ = false := fun x => (x.ok.frozen (p := ⟨P, 4, none⟩) hlP).trans (hP.frozen (j := 4) (by simp [row9]))
  have fq4 : ∀ x : BW w1, x.world.frozen? ⟨Q, 4, none⟩ = false := fun x => (x.ok.frozen (p := ⟨Q, 4, none⟩) hlQ).trans (hQ.frozen (j := 4) (by simp [row9]))
  have p5 : ∀ x : BW w1, x.world.cell? ⟨P, 5, none⟩ = some _ := fun x => (x.ok.cell (p := ⟨P, 5, none⟩) hlP).trans (hP.cell (j := 5) rfl)
  have q5 : ∀ x : BW w1, x.world.cell? ⟨Q, 5, none⟩ = some _ := fun x => (x.ok.cell (p := ⟨Q, 5, none⟩) hlQ).trans (hQ.cell (j := 5) rfl)
  have fp5 : ∀ x : BW w1, x.world.frozen? ⟨P, 5, none⟩ = false := fun x => (x.ok.frozen (p := ⟨P, 5, none⟩) hlP).trans (hP.frozen (j := 5) (by simp [row9]))
  have fq5 : ∀ x : BW w1, x.world.frozen? ⟨Q, 5, none⟩ = false := fun x => (x.ok.frozen (p := ⟨Q, 5, none⟩) hlQ).trans (hQ.frozen (j := 5) (by simp [row9]))
  have p6 : ∀ x : BW w1, x.world.cell? ⟨P, 6, none⟩ = some _ := fun x => (x.ok.cell (p := ⟨P, 6, none⟩) hlP).trans (hP.cell (j := 6) rfl)
  have q6 : ∀ x : BW w1, x.world.cell? ⟨Q, 6, none⟩ = some _ := fun x => (x.ok.cell (p := ⟨Q, 6, none⟩) hlQ).trans (hQ.cell (j := 6) rfl)
  have fp6 : ∀ x : BW w1, x.world.frozen? ⟨P, 6, none⟩ = false := fun x => (x.ok.frozen (p := ⟨P, 6, none⟩) hlP).trans (hP.frozen (j := 6) (by simp [row9]))
  have fq6 : ∀ x : BW w1, x.world.frozen? ⟨Q, 6, none⟩ = false := fun x => (x.ok.frozen (p := ⟨Q, 6, none⟩) hlQ).trans (hQ.frozen (j := 6) (by simp [row9]))
  have p7 : ∀ x : BW w1, x.world.cell? ⟨P, 7, none⟩ = some _ := fun x => (x.ok.cell (p := ⟨P, 7, none⟩) hlP).trans (hP.cell (j := 7) rfl)
  have q7 : ∀ x : BW w1, x.world.cell? ⟨Q, 7, none⟩ = some _ := fun x => (x.ok.cell (p := ⟨Q, 7, none⟩) hlQ).trans (hQ.cell (j := 7) rfl)
  have fp7 : ∀ x : BW w1, x.world.frozen? ⟨P, 7, none⟩ = false := fun x => (x.ok.frozen (p := ⟨P, 7, none⟩) hlP).trans (hP.frozen (j := 7) (by simp [row9]))
  have fq7 : ∀ x : BW w1, x.world.frozen? ⟨Q, 7, none⟩ = false := fun x => (x.ok.frozen (p := ⟨Q, 7, none⟩) hlQ).trans (hQ.frozen (j := 7) (by simp [row9]))
  have p8 : ∀ x : BW w1, x.world.cell? ⟨P, 8, none⟩ = some _ := fun x => (x.ok.cell (p := ⟨P, 8, none⟩) hlP).trans (hP.cell (j := 8) rfl)
  have q8 : ∀ x : BW w1, x.world.cell? ⟨Q, 8, none⟩ = some _ := fun x => (x.ok.cell (p := ⟨Q, 8, none⟩) hlQ).trans (hQ.cell (j := 8) rfl)
  have fp8 : ∀ x : BW w1, x.world.frozen? ⟨P, 8, none⟩ = false := fun x => (x.ok.frozen (p := ⟨P, 8, none⟩) hlP).trans (hP.frozen (j := 8) (by simp [row9]))
  have fq8 : ∀ x : BW w1, x.world.frozen? ⟨Q, 8, none⟩ = false := fun x => (x.ok.frozen (p := ⟨Q, 8, none⟩) hlQ).trans (hQ.frozen (j := 8) (by simp [row9]))
  have HP := Lib.hid hP
  have HQ := Lib.hid hQ
  have HR := Lib.hid hR
  have HB := Lib.hid hB
  have HW1 := Lib.hid hw1
  have HPe := Lib.hid hPe
  have HQe := Lib.hid hQe
  have HRe := Lib.hid hRe
  clear hP hQ hR hB hw1 hPe hQe hRe
  refine wp_region_bw (by kernel_rfl) (by kernel_rfl) ?_
  repeat (go_big_quiet_step (first | (go_at_call_of 40 a0; exact bw_call (hm0 _)) | (go_at_call_of 40 a1; exact bw_call (hm1 _))))
  refine wpQuiet_nil ?_
  intro _ hw'
  obtain ⟨nx, hw''⟩ := hw'
  subst hw''
  have hP2 := HP.out.below nx.ok hlP
  have hQ2 := HQ.out.below nx.ok hlQ
  have hR2 := HR.out.below nx.ok hlR
  have hB2 : Below w.heap.size w nx.world := HB.out.trans (nx.ok.mono HB.out.size)
  clear p0 q0 fp0 fq0 p1 q1 fp1 fq1 p2 q2 fp2 fq2 p3 q3 fp3 fq3 p4 q4 fp4 fq4 p5 q5 fp5 fq5 p6 q6 fp6 fq6 p7 q7 fp7 fq7 p8 q8 fp8 fq8 hset HP HQ HR HB HW1 hlP hlQ hlR
  obtain ⟨w2, hw2⟩ : ∃ w2, nx.world = w2 := ⟨_, rfl⟩
  rw [hw2] at hP2 hQ2 hR2 hB2 ⊢
  clear hw2 nx
  have hP3 := hP2.alloc (.cells #[.string ⟨#[]⟩, .string ⟨#[]⟩, .string ⟨#[]⟩, .string ⟨#[]⟩, .string ⟨#[]⟩, .bool false, .bool false, .bool false, .bool false] 42)
  have hQ3 := hQ2.alloc (.cells #[.string ⟨#[]⟩, .string ⟨#[]⟩, .string ⟨#[]⟩, .string ⟨#[]⟩, .string ⟨#[]⟩, .bool false, .bool false, .bool false, .bool false] 42)
  have hR3 := hR2.alloc (.cells #[.string ⟨#[]⟩, .string ⟨#[]⟩, .string ⟨#[]⟩, .string ⟨#[]⟩, .string ⟨#[]⟩, .bool false, .bool false, .bool false, .bool false] 42)
  have hT3 := RowAt.new w2 #[.string ⟨#[]⟩, .string ⟨#[]⟩, .string ⟨#[]⟩, .string ⟨#[]⟩, .string ⟨#[]⟩, .bool false, .bool false, .bool false, .bool false] 42 zeroLk rfl
  have hB3 := hB2.alloc hB2.size (.cells #[.string ⟨#[]⟩, .string ⟨#[]⟩, .string ⟨#[]⟩, .string ⟨#[]⟩, .string ⟨#[]⟩, .bool false, .bool false, .bool false, .bool false] 42)
  have hlR2 := hR2.lt
  obtain ⟨T, hT⟩ : ∃ T, w2.heap.size = T := ⟨_, rfl⟩
  rw [hT] at hT3 hlR2
  have hrs : RsAt w (w2.alloc (.cells #[.string ⟨#[]⟩, .string ⟨#[]⟩, .string ⟨#[]⟩, .string ⟨#[]⟩, .string ⟨#[]⟩, .bool false, .bool false, .bool false, .bool false] 42)) P Q R T (row9 a0 b0 c0 d0 f0 x0 y0 z0 u0) (row9 a1 b1 c1 d1 f1 x1 y1 z1 u1) zeroLk := ⟨hP3, hQ3, hR3, hT3, hB3⟩
  have HRS := Lib.hid hrs
  have HTe := Lib.hid hT
  have hwP : w.heap.size ≤ P := Nat.le_of_eq HPe.out
  have hPQ : P < Q := by have := HQe.out; omega
  have hQR : Q < R := by have := HRe.out; omega
  have hwT : w.heap.size ≤ T := by omega
  have hPT : P < T := by omega
  have hQT : Q < T := by omega
  clear hP3 hQ3 hR3 hT3 hB3 hP2 hQ2 hR2 hB2 hrs hT hPQ hQR hwP
  go_upto_block 0 with fail
  rw [(HTe.out : w2.heap.size = T)]
  have hrs := HRS.out
  obtain ⟨w3, hw3⟩ : ∃ w3, w2.alloc (.cells #[.string ⟨#[]⟩, .string ⟨#[]⟩, .string ⟨#[]⟩, .string ⟨#[]⟩, .string ⟨#[]⟩, .bool false, .bool false, .bool false, .bool false] 42) = w3 := ⟨_, rfl⟩
  rw [hw3] at hrs ⊢
  have HS := Lib.hid hrs
  clear HRS hw3 HTe
  go_cut [2] (fun p wx => p = .pointer (some ⟨P, 0, none⟩) ∧ RsAt w wx P Q R T (row9 a0 b0 c0 d0 f0 x0 y0 z0 u0) (row9 a1 b1 c1 d1 f1 x1 y1 z1 u1) (resT b0 c0 d0 a1 b1 c1 d1 f1 y0 z0 x1 y1 z1 u1))
  case first =>
    cases x1
    case true =>
      have q0 := hrs.2.1.cell (j := 0) rfl
      have q1 := hrs.2.1.cell (j := 1) rfl
      have q2 := hrs.2.1.cell (j := 2) rfl
      have q3 := hrs.2.1.cell (j := 3) rfl
      have q4 := hrs.2.1.cell (j := 4) rfl
      have q5 := hrs.2.1.cell (j := 5) rfl
      have q6 := hrs.2.1.cell (j := 6) rfl
      have q7 := hrs.2.1.cell (j := 7) rfl
      have q8 := hrs.2.1.cell (j := 8) rfl
      have t0 := hrs.2.2.2.1.cell (j := 0) rfl
      have t1 := hrs.2.2.2.1.cell (j := 1) rfl
      have t2 := hrs.2.2.2.1.cell (j := 2) rfl
      have t3 := hrs.2.2.2.1.cell (j := 3) rfl
      have t4 := hrs.2.2.2.1.cell (j := 4) rfl
      have t5 := hrs.2.2.2.1.cell (j := 5) rfl
      have t6 := hrs.2.2.2.1.cell (j := 6) rfl
      have t7 := hrs.2.2.2.1.cell (j := 7) rfl
      have t8 := hrs.2.2.2.1.cell (j := 8) rfl
      have fz0 := hrs.2.2.2.1.frozen (j := 0) (by decide)
      have fz1 := hrs.2.2.2.1.frozen (j := 1) (by decide)
      have fz2 := hrs.2.2.2.1.frozen (j := 2) (by decide)
      have fz3 := hrs.2.2.2.1.frozen (j := 3) (by decide)
      have fz4 := hrs.2.2.2.1.frozen (j := 4) (by decide)
      have fz5 := hrs.2.2.2.1.frozen (j := 5) (by decide)
      have fz6 := hrs.2.2.2.1.frozen (j := 6) (by decide)
      have fz7 := hrs.2.2.2.1.frozen (j := 7) (by decide)
      have fz8 := hrs.2.2.2.1.frozen (j := 8) (by decide)
      have hd := fun w => dots_any c1 w (by omega)
      clear hrs
      go_wp2_with fail
      refine (hd _).mono ?_
      clear hd
      rintro e w5 ⟨rfl, hb5⟩
      have hrs5 := (((((((((HS.out.set hwT hPT hQT hlR2 0 (.string a1)).set hwT hPT hQT hlR2 1 (.string b1)).set hwT hPT hQT hlR2 2 (.string c1)).set hwT hPT hQT hlR2 3 (.string d1)).set hwT hPT hQT hlR2 4 (.string f1)).set hwT hPT hQT hlR2 5 (.bool true)).set hwT hPT hQT hlR2 6 (.bool y1)).set hwT hPT hQT hlR2 7 (.bool z1)).set hwT hPT hQT hlR2 8 (.bool u1)).later hb5
      clear q0 t0 fz0 q1 t1 fz1 q2 t2 fz2 q3 t3 fz3 q4 t4 fz4 q5 t5 fz5 q6 t6 fz6 q7 t7 fz7 q8 t8 fz8
      have t2 := hrs5.2.2.2.1.cell (j := 2) rfl
      have fz2 := hrs5.2.2.2.1.frozen (j := 2) (by simp [zeroLk])
      have HS5 := Lib.hid hrs5
      clear hrs5 hb5
      go_wp2_with fail
      go_meet
      case rel => exact ⟨rfl, HS5.out.set hwT hPT hQT hlR2 2 (.string (dS c1))⟩
    case false =>
      cases y1
      case true =>
        have q0 := hrs.2.1.cell (j := 0) rfl
        have q1 := hrs.2.1.cell (j := 1) rfl
        have q2 := hrs.2.1.cell (j := 2) rfl
        have q3 := hrs.2.1.cell (j := 3) rfl
        have q4 := hrs.2.1.cell (j := 4) rfl
        have q5 := hrs.2.1.cell (j := 5) rfl
        have q6 := hrs.2.1.cell (j := 6) rfl
        have q7 := hrs.2.1.cell (j := 7) rfl
        have q8 := hrs.2.1.cell (j := 8) rfl
        have t1 := hrs.2.2.2.1.cell (j := 1) rfl
        have t2 := hrs.2.2.2.1.cell (j := 2) rfl
        have t6 := hrs.2.2.2.1.cell (j := 6) rfl
        have fz1 := hrs.2.2.2.1.frozen (j := 1) (by decide)
        have fz2 := hrs.2.2.2.1.frozen (j := 2) (by decide)
        have fz6 := hrs.2.2.2.1.frozen (j := 6) (by decide)
        have hd := fun w => dots_any c1 w (by omega)
        have hlQ3 := hrs.2.1.lt
        have hlT3 := hrs.2.2.2.1.lt
        clear hrs
        go_upto_region 19 with fail
        have hne1 : ¬ T = Q := by omega
        have hne2 : ¬ Q = T := by omega
        go_region_held3 (fun w' => w'.cell? ⟨Q, 1, none⟩ = some (.string b1) ∧ w'.cell? ⟨Q, 2, none⟩ = some (.string c1) ∧ w'.frozen? ⟨T, 1, none⟩ = false ∧ w'.frozen? ⟨T, 2, none⟩ = false ∧ w'.frozen? ⟨T, 6, none⟩ = false) (go_keep)
          (first | (go_at_call 48; refine (hd _).mono ?_; rintro e w5 ⟨rfl, hb5⟩; have hrs5 := RsAt.later (RsAt.drew HS.out) hb5; have k1 := hrs5.2.1.cell (j := 1) rfl; have k2 := hrs5.2.1.cell (j := 2) rfl; have k3 := hrs5.2.2.2.1.cell (j := 1) rfl; have k4 := hrs5.2.2.2.1.cell (j := 2) rfl; have k5 := hrs5.2.2.2.1.cell (j := 6) rfl; have k6 := hrs5.2.2.2.1.frozen (j := 1) (by decide); have k7 := hrs5.2.2.2.1.frozen (j := 2) (by decide); have k8 := hrs5.2.2.2.1.frozen (j := 6) (by decide); have HS5 := Lib.hid hrs5))
        have hrs6 := ((HS5.out.set hwT hPT hQT hlR2 1 (.string b1)).set hwT hPT hQT hlR2 6 (.bool true)).set hwT hPT hQT hlR2 2 (.string ⟨(dots c1.data.toList).toArray⟩)
        obtain ⟨w6, hw6⟩ : ∃ w6, ((w5.setCell ⟨T, 1, none⟩ (.string b1)).setCell ⟨T, 6, none⟩ (.bool true)).setCell ⟨T, 2, none⟩ (.string ⟨(dots c1.data.toList).toArray⟩) = w6 := ⟨_, rfl⟩
        rw [hw6] at hrs6 ⊢
        have HS6 := Lib.hid hrs6
        clear hw6 hrs5 hb5 k1 k2 k3 k4 k5 k6 k7 k8 q0 q1 q2 q3 q4 q5 q6 q7 q8 t1 t2 t6 fz1 fz2 fz6 hd
        have q0 := hrs6.2.1.cell (j := 0) rfl
        have q1 := hrs6.2.1.cell (j := 1) rfl
        have q2 := hrs6.2.1.cell (j := 2) rfl
        have q3 := hrs6.2.1.cell (j := 3) rfl
        have q4 := hrs6.2.1.cell (j := 4) rfl
        have q5 := hrs6.2.1.cell (j := 5) rfl
        have q6 := hrs6.2.1.cell (j := 6) rfl
        have q7 := hrs6.2.1.cell (j := 7) rfl
        have q8 := hrs6.2.1.cell (j := 8) rfl
        clear hrs6
        go_wp2_with fail
        refine (query_any a1 b1 c1 d1 f1 false true z1 u1 T _ w6 HS6.out.2.2.2.1 (by simp [zeroLk])).mono ?_
        rintro e w7 ⟨rfl, hr7, hb7⟩
        have HS7 := Lib.hid (HS6.out.query hwT hPT hQT hlR2 hr7 hb7)
        clear hr7 hb7
        clear q0 q1 q2 q3 q4 q5 q6 q7 q8
        go_wp2_with fail
        go_meet
        case rel => exact ⟨rfl, HS7.out⟩
      case false =>
        have p1 := hrs.1.cell (j := 1) rfl
        have p6 := hrs.1.cell (j := 6) rfl
        have q5 := hrs.2.1.cell (j := 5) rfl
        have q6 := hrs.2.1.cell (j := 6) rfl
        have t1 := hrs.2.2.2.1.cell (j := 1) rfl
        have t6 := hrs.2.2.2.1.cell (j := 6) rfl
        have fz1 := hrs.2.2.2.1.frozen (j := 1) (by decide)
        have fz6 := hrs.2.2.2.1.frozen (j := 6) (by decide)
        have hne1 : ¬ T = P := by omega
        have hne2 : ¬ P = T := by omega
        clear hrs
        go_upto_region 4 with fail
        go_region
        have hrs4 := ((HS.out.set hwT hPT hQT hlR2 1 (.string b0)).set hwT hPT hQT hlR2 6 (.bool y0)).drew
        obtain ⟨w4, hw4⟩ : ∃ w4, ((w3.setCell ⟨T, 1, none⟩ (.string b0)).setCell ⟨T, 6, none⟩ (.bool y0)).drew = w4 := ⟨_, rfl⟩
        rw [hw4] at hrs4 ⊢
        clear hw4 p1 p6 t1 t6 fz1 fz6 hne1 hne2 HS q5 q6
        have HS4 := Lib.hid hrs4
        have p0 := hrs4.1.cell (j := 0) rfl
        have p1 := hrs4.1.cell (j := 1) rfl
        have p2 := hrs4.1.cell (j := 2) rfl
        have p3 := hrs4.1.cell (j := 3) rfl
        have p4 := hrs4.1.cell (j := 4) rfl
        have p5 := hrs4.1.cell (j := 5) rfl
        have p6 := hrs4.1.cell (j := 6) rfl
        have p7 := hrs4.1.cell (j := 7) rfl
        have p8 := hrs4.1.cell (j := 8) rfl
        have q0 := hrs4.2.1.cell (j := 0) rfl
        have q1 := hrs4.2.1.cell (j := 1) rfl
        have q2 := hrs4.2.1.cell (j := 2) rfl
        have q3 := hrs4.2.1.cell (j := 3) rfl
        have q4 := hrs4.2.1.cell (j := 4) rfl
        have q5 := hrs4.2.1.cell (j := 5) rfl
        have q6 := hrs4.2.1.cell (j := 6) rfl
        have q7 := hrs4.2.1.cell (j := 7) rfl
        have q8 := hrs4.2.1.cell (j := 8) rfl
        have t2 := hrs4.2.2.2.1.cell (j := 2) rfl
        have fz2 := hrs4.2.2.2.1.frozen (j := 2) (by simp [zeroLk])
        clear hrs4
        by_cases h0 : 0 < c1.size
        · have hne := empty_false c1 h0
          have h0I : (0 : Int) < (c1.size : Int) := by omega
          have hnl : ¬ c1.data.toList = [] := by intro e; rw [size_eq, e] at h0; simp at h0
          have hhd : c1.data.toList.head? = some c1[0] := by
            have := drop_at c1 0 h0
            rw [List.drop_zero] at this
            rw [this]; rfl
          obtain ⟨ch, hch⟩ : ∃ c, c1[0] = c := ⟨_, rfl⟩
          rw [hch] at hhd
          have HNL := Lib.hid hnl
          have HHD := Lib.hid hhd
          clear hnl hhd
          by_cases hsl : (ch.toNat : Int) = 47
          · have hd := fun w => dots_any c1 w (by omega)
            go_wp2_with fail
            refine (hd _).mono ?_
            clear hd p0 p1 p2 p3 p4 p5 p6 p7 p8 q0 q1 q2 q3 q4 q5 q6 q7 q8 t2 fz2
            rintro e w5 ⟨rfl, hb5⟩
            have HS5 := Lib.hid (HS4.out.later hb5)
            clear hb5
            have q0 := HS5.out.2.1.cell (j := 0) rfl
            have q1 := HS5.out.2.1.cell (j := 1) rfl
            have q2 := HS5.out.2.1.cell (j := 2) rfl
            have q3 := HS5.out.2.1.cell (j := 3) rfl
            have q4 := HS5.out.2.1.cell (j := 4) rfl
            have q5 := HS5.out.2.1.cell (j := 5) rfl
            have q6 := HS5.out.2.1.cell (j := 6) rfl
            have q7 := HS5.out.2.1.cell (j := 7) rfl
            have q8 := HS5.out.2.1.cell (j := 8) rfl
            have t2 := HS5.out.2.2.2.1.cell (j := 2) rfl
            have fz2 := HS5.out.2.2.2.1.frozen (j := 2) (by simp [zeroLk])
            have HS6 := Lib.hid (HS5.out.set hwT hPT hQT hlR2 2 (.string ⟨(dots c1.data.toList).toArray⟩))
            have hne1 : ¬ T = Q := by omega
            have hne2 : ¬ Q = T := by omega
            go_wp2_with fail
            refine (query_any a1 b1 c1 d1 f1 false false z1 u1 T _ _ HS6.out.2.2.2.1 (by simp [zeroLk])).mono ?_
            rintro e w7 ⟨rfl, hr7, hb7⟩
            have HS7 := Lib.hid (HS6.out.query hwT hPT hQT hlR2 hr7 hb7)
            clear hr7 hb7 t2 fz2 q0 q1 q2 q3 q4 q5 q6 q7 q8
            go_wp2_with fail
            go_meet
            case rel =>
              refine ⟨rfl, ?_⟩
              have e : resT b0 c0 d0 a1 b1 c1 d1 f1 y0 z0 false false z1 u1 = row9 eS b0 (⟨(dots c1.data.toList).toArray⟩) d1 eS false y0 z1 false := by
                unfold resT
                rw [if_neg Bool.false_ne_true, if_neg Bool.false_ne_true, if_neg HNL.out, HHD.out]
                have h47 : ch = 47 := UInt8.toNat_inj.1 (show ch.toNat = 47 by omega)
                rw [if_pos (by rw [h47])]
                rfl
              rw [e]
              exact HS7.out
          · go_wp2_with fail
            refine (merged_any a0 b0 c0 d0 f0 x0 y0 z0 u0 c1 _ hc0 hc1).mono ?_
            rintro e wm ⟨rfl, hbm⟩
            have HSM := Lib.hid (HS4.out.later hbm)
            have hml : (mS y0 c0 c1).size ≤ 200000100 := mS_size y0 c0 c1 hc0 hc1
            have hd := fun w => dots_any (mS y0 c0 c1) w (by omega)
            clear hbm hml p0 p1 p2 p3 p4 p5 p6 p7 p8 q0 q1 q2 q3 q4 q5 q6 q7 q8 t2 fz2
            go_wp2_with fail
            refine (hd _).mono ?_
            clear hd
            rintro e w5 ⟨rfl, hb5⟩
            have HS5 := Lib.hid (HSM.out.later hb5)
            clear hb5
            have q0 := HS5.out.2.1.cell (j := 0) rfl
            have q1 := HS5.out.2.1.cell (j := 1) rfl
            have q2 := HS5.out.2.1.cell (j := 2) rfl
            have q3 := HS5.out.2.1.cell (j := 3) rfl
            have q4 := HS5.out.2.1.cell (j := 4) rfl
            have q5 := HS5.out.2.1.cell (j := 5) rfl
            have q6 := HS5.out.2.1.cell (j := 6) rfl
            have q7 := HS5.out.2.1.cell (j := 7) rfl
            have q8 := HS5.out.2.1.cell (j := 8) rfl
            have t2 := HS5.out.2.2.2.1.cell (j := 2) rfl
            have fz2 := HS5.out.2.2.2.1.frozen (j := 2) (by simp [zeroLk])
            have HS6 := Lib.hid (HS5.out.set hwT hPT hQT hlR2 2 (.string ⟨(dots (mS y0 c0 c1).data.toList).toArray⟩))
            have hne1 : ¬ T = Q := by omega
            have hne2 : ¬ Q = T := by omega
            go_wp2_with fail
            refine (query_any a1 b1 c1 d1 f1 false false z1 u1 T _ _ HS6.out.2.2.2.1 (by simp [zeroLk])).mono ?_
            rintro e w7 ⟨rfl, hr7, hb7⟩
            have HS7 := Lib.hid (HS6.out.query hwT hPT hQT hlR2 hr7 hb7)
            clear hr7 hb7 t2 fz2 q0 q1 q2 q3 q4 q5 q6 q7 q8
            go_wp2_with fail
            go_meet
            case rel =>
              refine ⟨rfl, ?_⟩
              have e : resT b0 c0 d0 a1 b1 c1 d1 f1 y0 z0 false false z1 u1 = row9 eS b0 (⟨(dots (mS y0 c0 c1).data.toList).toArray⟩) d1 eS false y0 z1 false := by
                unfold resT
                rw [if_neg Bool.false_ne_true, if_neg Bool.false_ne_true, if_neg HNL.out, HHD.out]
                rw [if_neg (by intro e; cases e; exact hsl rfl)]
                rfl
              rw [e]
              exact HS7.out
        · have hne := empty_true c1 (by omega)
          have HNL : Hid (c1.data.toList = []) := nil_of_size c1 (by omega)
          go_wp2_with fail
          have HS5 := Lib.hid (HS4.out.set hwT hPT hQT hlR2 2 (.string c0))
          refine (query_any a0 b0 c0 d0 f0 x0 y0 z0 u0 T _ _ HS5.out.2.2.2.1 (by simp [zeroLk])).mono ?_
          rintro e w7 ⟨rfl, hr7, hb7⟩
          have HS7 := Lib.hid (HS5.out.query hwT hPT hQT hlR2 hr7 hb7)
          clear hr7 hb7 p0 p1 p2 p3 p4 p5 p6 p7 p8 q0 q1 q2 q3 q4 q5 q6 q7 q8 t2 fz2
          have q0 := HS7.out.2.1.cell (j := 0) rfl
          have q1 := HS7.out.2.1.cell (j := 1) rfl
          have q2 := HS7.out.2.1.cell (j := 2) rfl
          have q3 := HS7.out.2.1.cell (j := 3) rfl
          have q4 := HS7.out.2.1.cell (j := 4) rfl
          have q5 := HS7.out.2.1.cell (j := 5) rfl
          have q6 := HS7.out.2.1.cell (j := 6) rfl
          have q7 := HS7.out.2.1.cell (j := 7) rfl
          have q8 := HS7.out.2.1.cell (j := 8) rfl
          cases z1
          · go_wp2_with fail
            go_meet
            case rel =>
              refine ⟨rfl, ?_⟩
              have e : resT b0 c0 d0 a1 b1 c1 d1 f1 y0 z0 false false false u1 = row9 eS b0 c0 d0 eS false y0 z0 false := by
                unfold resT
                rw [if_neg Bool.false_ne_true, if_neg Bool.false_ne_true, if_pos HNL.out, if_neg Bool.false_ne_true]
              rw [e]
              exact HS7.out
          · go_wp2_with fail
            refine (query_any a1 b1 c1 d1 f1 false false true u1 T _ _ HS7.out.2.2.2.1 (by simp [zeroLk])).mono ?_
            rintro e w8 ⟨rfl, hr8, hb8⟩
            have HS8 := Lib.hid (HS7.out.query hwT hPT hQT hlR2 hr8 hb8)
            clear hr8 hb8 q0 q1 q2 q3 q4 q5 q6 q7 q8
            go_wp2_with fail
            go_meet
            case rel =>
              refine ⟨rfl, ?_⟩
              have e : resT b0 c0 d0 a1 b1 c1 d1 f1 y0 z0 false false true u1 = row9 eS b0 c0 d1 eS false y0 true false := by
                unfold resT
                rw [if_neg Bool.false_ne_true, if_neg Bool.false_ne_true, if_pos HNL.out, if_pos rfl]
              rw [e]
              exact HS8.out
  case rest =>
    obtain ⟨rfl, hrs⟩ := hcut
    obtain ⟨A, B, C, D, F, X, Y, Z, U, he⟩ := resT_row b0 c0 d0 a1 b1 c1 d1 f1 y0 z0 x1 y1 z1 u1
    rw [he] at hrs
    have HE := Lib.hid he
    have hn1 : ¬ T = Q := by omega
    have hn2 : ¬ Q = T := by omega
    have hn3 : ¬ T = P := by omega
    have hn4 : ¬ P = T := by omega
    have hn5 : ¬ T = R := by omega
    have hn6 : ¬ R = T := by omega
    have HSc := Lib.hid hrs
    clear he hm0 hm1 HS
    cases x1
    case true =>
      have q5 := hrs.2.1.cell (j := 5) rfl
      clear hrs
      have q4 := HSc.out.2.1.cell (j := 4) rfl
      have q8 := HSc.out.2.1.cell (j := 8) rfl
      have t4 := HSc.out.2.2.2.1.cell (j := 4) rfl
      have t8 := HSc.out.2.2.2.1.cell (j := 8) rfl
      have fz4 := HSc.out.2.2.2.1.frozen (j := 4) (by simp [row9])
      have fz8 := HSc.out.2.2.2.1.frozen (j := 8) (by simp [row9])
      go_upto_region 23 with fail
      go_region
      have hrs9 := ((HSc.out.set hwT hPT hQT hlR2 4 (.string f1)).set hwT hPT hQT hlR2 8 (.bool u1)).drew
      obtain ⟨w9, hw9⟩ : ∃ w9, ((wc.setCell ⟨T, 4, none⟩ (.string f1)).setCell ⟨T, 8, none⟩ (.bool u1)).drew = w9 := ⟨_, rfl⟩
      rw [hw9] at hrs9 ⊢
      clear hw9 q4 q8 t4 t8 fz4 fz8
      have HS9 := Lib.hid hrs9
      have t0 := hrs9.2.2.2.1.cell (j := 0) rfl
      have t1 := hrs9.2.2.2.1.cell (j := 1) rfl
      have t2 := hrs9.2.2.2.1.cell (j := 2) rfl
      have t3 := hrs9.2.2.2.1.cell (j := 3) rfl
      have t4 := hrs9.2.2.2.1.cell (j := 4) rfl
      have t5 := hrs9.2.2.2.1.cell (j := 5) rfl
      have t6 := hrs9.2.2.2.1.cell (j := 6) rfl
      have t7 := hrs9.2.2.2.1.cell (j := 7) rfl
      have t8 := hrs9.2.2.2.1.cell (j := 8) rfl
      have r0 := hrs9.2.2.1.cell (j := 0) rfl
      have r1 := hrs9.2.2.1.cell (j := 1) rfl
      have r2 := hrs9.2.2.1.cell (j := 2) rfl
      have r3 := hrs9.2.2.1.cell (j := 3) rfl
      have r4 := hrs9.2.2.1.cell (j := 4) rfl
      have r5 := hrs9.2.2.1.cell (j := 5) rfl
      have r6 := hrs9.2.2.1.cell (j := 6) rfl
      have r7 := hrs9.2.2.1.cell (j := 7) rfl
      have r8 := hrs9.2.2.1.cell (j := 8) rfl
      have fr0 := hrs9.2.2.1.frozen (j := 0) (by decide)
      have fr1 := hrs9.2.2.1.frozen (j := 1) (by decide)
      have fr2 := hrs9.2.2.1.frozen (j := 2) (by decide)
      have fr3 := hrs9.2.2.1.frozen (j := 3) (by decide)
      have fr4 := hrs9.2.2.1.frozen (j := 4) (by decide)
      have fr5 := hrs9.2.2.1.frozen (j := 5) (by decide)
      have fr6 := hrs9.2.2.1.frozen (j := 6) (by decide)
      have fr7 := hrs9.2.2.1.frozen (j := 7) (by decide)
      have fr8 := hrs9.2.2.1.frozen (j := 8) (by decide)
      clear hrs9
      go_wp2_with fail
      have hfin : Value.agg (resF a0 b0 c0 d0 a1 b1 c1 d1 f1 x0 y0 z0 true y1 z1 u1).toArray = .agg #[.string A, .string B, .string C, .string D, .string f1, .bool X, .bool Y, .bool Z, .bool u1] := by
        unfold resF
        rw [HE.out]
        rfl
      rw [hfin]
      refine bodyPost_ret (v := .agg #[.string A, .string B, .string C, .string D, .string f1, .bool X, .bool Y, .bool Z, .bool u1]) (by simp [results, Tryz.results15, go_sem, r0, r1, r2, r3, r4, r5, r6, r7, r8]) rfl ⟨rfl, ?_⟩
      have hwR : w.heap.size ≤ R := by have := HPe.out; have := HQe.out; have := HRe.out; omega
      iterate 9 (refine Below.setCell ?_ hwR _)
      exact HS9.out.2.2.2.2
    case false =>
      have q5 := hrs.2.1.cell (j := 5) rfl
      have p0 := hrs.1.cell (j := 0) rfl
      have p5 := hrs.1.cell (j := 5) rfl
      have t0 := hrs.2.2.2.1.cell (j := 0) rfl
      have t5 := hrs.2.2.2.1.cell (j := 5) rfl
      have fz0 := hrs.2.2.2.1.frozen (j := 0) (by simp [row9])
      have fz5 := hrs.2.2.2.1.frozen (j := 5) (by simp [row9])
      clear hrs
      go_upto_region 22 with fail
      go_region
      have hrs8 := ((HSc.out.set hwT hPT hQT hlR2 0 (.string a0)).set hwT hPT hQT hlR2 5 (.bool x0)).drew
      obtain ⟨w8, hw8⟩ : ∃ w8, ((wc.setCell ⟨T, 0, none⟩ (.string a0)).setCell ⟨T, 5, none⟩ (.bool x0)).drew = w8 := ⟨_, rfl⟩
      rw [hw8] at hrs8 ⊢
      have HS8 : Hid (RsAt w w8 P Q R T (row9 a0 b0 c0 d0 f0 x0 y0 z0 u0) (row9 a1 b1 c1 d1 f1 false y1 z1 u1) (row9 a0 B C D F x0 Y Z U)) := hrs8
      clear hw8 hrs8 q5 p0 p5 t0 t5 fz0 fz5 HSc
      have q4 := HS8.out.2.1.cell (j := 4) rfl
      have q8 := HS8.out.2.1.cell (j := 8) rfl
      have t4 := HS8.out.2.2.2.1.cell (j := 4) rfl
      have t8 := HS8.out.2.2.2.1.cell (j := 8) rfl
      have fz4 := HS8.out.2.2.2.1.frozen (j := 4) (by simp [row9])
      have fz8 := HS8.out.2.2.2.1.frozen (j := 8) (by simp [row9])
      go_upto_region 23 with fail
      go_region
      have hrs9 := ((HS8.out.set hwT hPT hQT hlR2 4 (.string f1)).set hwT hPT hQT hlR2 8 (.bool u1)).drew
      obtain ⟨w9, hw9⟩ : ∃ w9, ((w8.setCell ⟨T, 4, none⟩ (.string f1)).setCell ⟨T, 8, none⟩ (.bool u1)).drew = w9 := ⟨_, rfl⟩
      rw [hw9] at hrs9 ⊢
      clear hw9 q4 q8 t4 t8 fz4 fz8
      have HS9 := Lib.hid hrs9
      have t0 := hrs9.2.2.2.1.cell (j := 0) rfl
      have t1 := hrs9.2.2.2.1.cell (j := 1) rfl
      have t2 := hrs9.2.2.2.1.cell (j := 2) rfl
      have t3 := hrs9.2.2.2.1.cell (j := 3) rfl
      have t4 := hrs9.2.2.2.1.cell (j := 4) rfl
      have t5 := hrs9.2.2.2.1.cell (j := 5) rfl
      have t6 := hrs9.2.2.2.1.cell (j := 6) rfl
      have t7 := hrs9.2.2.2.1.cell (j := 7) rfl
      have t8 := hrs9.2.2.2.1.cell (j := 8) rfl
      have r0 := hrs9.2.2.1.cell (j := 0) rfl
      have r1 := hrs9.2.2.1.cell (j := 1) rfl
      have r2 := hrs9.2.2.1.cell (j := 2) rfl
      have r3 := hrs9.2.2.1.cell (j := 3) rfl
      have r4 := hrs9.2.2.1.cell (j := 4) rfl
      have r5 := hrs9.2.2.1.cell (j := 5) rfl
      have r6 := hrs9.2.2.1.cell (j := 6) rfl
      have r7 := hrs9.2.2.1.cell (j := 7) rfl
      have r8 := hrs9.2.2.1.cell (j := 8) rfl
      have fr0 := hrs9.2.2.1.frozen (j := 0) (by decide)
      have fr1 := hrs9.2.2.1.frozen (j := 1) (by decide)
      have fr2 := hrs9.2.2.1.frozen (j := 2) (by decide)
      have fr3 := hrs9.2.2.1.frozen (j := 3) (by decide)
      have fr4 := hrs9.2.2.1.frozen (j := 4) (by decide)
      have fr5 := hrs9.2.2.1.frozen (j := 5) (by decide)
      have fr6 := hrs9.2.2.1.frozen (j := 6) (by decide)
      have fr7 := hrs9.2.2.1.frozen (j := 7) (by decide)
      have fr8 := hrs9.2.2.1.frozen (j := 8) (by decide)
      clear hrs9
      go_wp2_with fail
      have hfin : Value.agg (resF a0 b0 c0 d0 a1 b1 c1 d1 f1 x0 y0 z0 false y1 z1 u1).toArray = .agg #[.string a0, .string B, .string C, .string D, .string f1, .bool x0, .bool Y, .bool Z, .bool u1] := by
        unfold resF
        rw [HE.out]
        rfl
      rw [hfin]
      refine bodyPost_ret (v := .agg #[.string a0, .string B, .string C, .string D, .string f1, .bool x0, .bool Y, .bool Z, .bool u1]) (by simp [results, Tryz.results15, go_sem, r0, r1, r2, r3, r4, r5, r6, r7, r8]) rfl ⟨rfl, ?_⟩
      have hwR : w.heap.size ≤ R := by have := HPe.out; have := HQe.out; have := HRe.out; omega
      iterate 9 (refine Below.setCell ?_ hwR _)
      exact HS9.out.2.2.2.2
end Go.Proofs.YtabagfhnkdhjdaaGreatDoor
