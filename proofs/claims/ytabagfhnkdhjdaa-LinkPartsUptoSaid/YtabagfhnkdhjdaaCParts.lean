/- The law LinkParts: for every text and every link in its parts whose reading is of bulk at most 1048576 the call returns true, and both read as they did. -/
import Derived.Test.YtabagfhnkdhjdaaRows
import Derived.Test.YtabagfhnkdhjdaaLParts
import Derived.WalkKit
import Derived.ProofKit
import Derived.OpenShut
import Derived.JoinedCond
import Derived.Lib.SmallJoins
namespace Go.Proofs.Ytabagfhnkdhjdaa.lawParts
open Go.ChangeShapes Go.WideShapes Go.ChangeAt Go.RowKit Go.Deep
open Go.ChangeMaps (open_string shut_string)

theorem own : ownKnob Try.prog.godebug = none := by kernel_rfl

section
variable {H : Type} {enc : TypeId × Value → H} {P : Program} {w : World} {base : Nat} {spare : Nat → Bool} {held : Bool}
/-- A struct of five strings and four bools, by value. -/
theorem open_lk {r : Reach} {b0 : Nat} {t : TypeId} {f0 f1 f2 f3 f4 f5 f6 f7 f8 : Field} {v : Value} {d : DataW H} {p : List MemPlace}
    (hs : P.underlying t = some (.struct #[f0, f1, f2, f3, f4, f5, f6, f7, f8])) (hone : oneCellFields P #[f0, f1, f2, f3, f4, f5, f6, f7, f8] = true) (hC : P.cellsOf t = 9)
    (s0 : P.underlying f0.type = some .string) (s1 : P.underlying f1.type = some .string) (s2 : P.underlying f2.type = some .string) (s3 : P.underlying f3.type = some .string) (s4 : P.underlying f4.type = some .string)
    (s5 : P.underlying f5.type = some .bool) (s6 : P.underlying f6.type = some .bool) (s7 : P.underlying f7.type = some .bool) (s8 : P.underlying f8.type = some .bool)
    (hv : Value.okWide P w r b0 t v) (h : DataW.Trod enc P w base spare held t v d p) :
    ∃ (a b c e f : ByteArray) (x y z u : Bool), v = .agg #[.string a, .string b, .string c, .string e, .string f, .bool x, .bool y, .bool z, .bool u] ∧
      d = .agg [.lit (.string a.data.toList), .lit (.string b.data.toList), .lit (.string c.data.toList), .lit (.string e.data.toList), .lit (.string f.data.toList), .lit (.bool x), .lit (.bool y), .lit (.bool z), .lit (.bool u)] ∧ p = [] ∧
      a.size ≤ maxLen ∧ b.size ≤ maxLen ∧ c.size ≤ maxLen ∧ e.size ≤ maxLen ∧ f.size ≤ maxLen := by
  obtain ⟨cs, rfl, hsz⟩ := okWide_struct hs hv
  obtain ⟨l⟩ := cs
  match l, hsz.trans hC with
  | [c0, c1, c2, c3, c4, c5, c6, c7, c8], _ =>
    obtain ⟨fuel, hf⟩ := h
    obtain ⟨xs, n, _, hx, _, hlen, hg⟩ := DataW.trod_struct hs hf
    obtain ⟨o0, k0⟩ := hone_of hone 0 f0 rfl
    obtain ⟨o1, k1⟩ := hone_of hone 1 f1 rfl
    obtain ⟨o2, k2⟩ := hone_of hone 2 f2 rfl
    obtain ⟨o3, k3⟩ := hone_of hone 3 f3 rfl
    obtain ⟨o4, k4⟩ := hone_of hone 4 f4 rfl
    obtain ⟨o5, k5⟩ := hone_of hone 5 f5 rfl
    obtain ⟨o6, k6⟩ := hone_of hone 6 f6 rfl
    obtain ⟨o7, k7⟩ := hone_of hone 7 f7 rfl
    obtain ⟨o8, k8⟩ := hone_of hone 8 f8 rfl
    match xs, hlen with
    | [y0, y1, y2, y3, y4, y5, y6, y7, y8], _ =>
      have g0 : DataW.trod enc P w base spare held n f0.type [c0] = some y0 := by simpa [Value.cells, o0, k0] using hg 0 f0 rfl
      have g1 : DataW.trod enc P w base spare held n f1.type [c1] = some y1 := by simpa [Value.cells, o1, k1] using hg 1 f1 rfl
      have g2 : DataW.trod enc P w base spare held n f2.type [c2] = some y2 := by simpa [Value.cells, o2, k2] using hg 2 f2 rfl
      have g3 : DataW.trod enc P w base spare held n f3.type [c3] = some y3 := by simpa [Value.cells, o3, k3] using hg 3 f3 rfl
      have g4 : DataW.trod enc P w base spare held n f4.type [c4] = some y4 := by simpa [Value.cells, o4, k4] using hg 4 f4 rfl
      have g5 : DataW.trod enc P w base spare held n f5.type [c5] = some y5 := by simpa [Value.cells, o5, k5] using hg 5 f5 rfl
      have g6 : DataW.trod enc P w base spare held n f6.type [c6] = some y6 := by simpa [Value.cells, o6, k6] using hg 6 f6 rfl
      have g7 : DataW.trod enc P w base spare held n f7.type [c7] = some y7 := by simpa [Value.cells, o7, k7] using hg 7 f7 rfl
      have g8 : DataW.trod enc P w base spare held n f8.type [c8] = some y8 := by simpa [Value.cells, o8, k8] using hg 8 f8 rfl
      obtain ⟨a, e0, rfl, m0⟩ := DataW.trod_string s0 g0
      obtain ⟨b, e1, rfl, m1⟩ := DataW.trod_string s1 g1
      obtain ⟨c, e2, rfl, m2⟩ := DataW.trod_string s2 g2
      obtain ⟨e, e3, rfl, m3⟩ := DataW.trod_string s3 g3
      obtain ⟨f, e4, rfl, m4⟩ := DataW.trod_string s4 g4
      obtain ⟨x, e5, rfl⟩ := DataW.trod_bool s5 g5
      obtain ⟨y, e6, rfl⟩ := DataW.trod_bool s6 g6
      obtain ⟨z, e7, rfl⟩ := DataW.trod_bool s7 g7
      obtain ⟨u, e8, rfl⟩ := DataW.trod_bool s8 g8
      simp only [List.cons.injEq, and_true] at e0 e1 e2 e3 e4 e5 e6 e7 e8
      subst e0 e1 e2 e3 e4 e5 e6 e7 e8
      simp only [Prod.mk.injEq] at hx
      exact ⟨a, b, c, e, f, x, y, z, u, rfl, by simpa using hx.1, by simpa using hx.2, m0, m1, m2, m3, m4⟩

theorem shut_lk {t : TypeId} {f0 f1 f2 f3 f4 f5 f6 f7 f8 : Field} {a b c e f : ByteArray} {x y z u : Bool}
    (hs : P.underlying t = some (.struct #[f0, f1, f2, f3, f4, f5, f6, f7, f8])) (hone : oneCellFields P #[f0, f1, f2, f3, f4, f5, f6, f7, f8] = true) (hC : P.cellsOf t = 9)
    (s0 : P.underlying f0.type = some .string) (s1 : P.underlying f1.type = some .string) (s2 : P.underlying f2.type = some .string) (s3 : P.underlying f3.type = some .string) (s4 : P.underlying f4.type = some .string)
    (s5 : P.underlying f5.type = some .bool) (s6 : P.underlying f6.type = some .bool) (s7 : P.underlying f7.type = some .bool) (s8 : P.underlying f8.type = some .bool)
    (m0 : a.size ≤ maxLen) (m1 : b.size ≤ maxLen) (m2 : c.size ≤ maxLen) (m3 : e.size ≤ maxLen) (m4 : f.size ≤ maxLen) :
    DataW.Trod enc P w base spare held t (.agg #[.string a, .string b, .string c, .string e, .string f, .bool x, .bool y, .bool z, .bool u])
      (.agg [.lit (.string a.data.toList), .lit (.string b.data.toList), .lit (.string c.data.toList), .lit (.string e.data.toList), .lit (.string f.data.toList), .lit (.bool x), .lit (.bool y), .lit (.bool z), .lit (.bool u)]) [] := by
  obtain ⟨o0, k0⟩ := hone_of hone 0 f0 rfl
  obtain ⟨o1, k1⟩ := hone_of hone 1 f1 rfl
  obtain ⟨o2, k2⟩ := hone_of hone 2 f2 rfl
  obtain ⟨o3, k3⟩ := hone_of hone 3 f3 rfl
  obtain ⟨o4, k4⟩ := hone_of hone 4 f4 rfl
  obtain ⟨o5, k5⟩ := hone_of hone 5 f5 rfl
  obtain ⟨o6, k6⟩ := hone_of hone 6 f6 rfl
  obtain ⟨o7, k7⟩ := hone_of hone 7 f7 rfl
  obtain ⟨o8, k8⟩ := hone_of hone 8 f8 rfl
  have t0 : DataW.trod enc P w base spare held 1 f0.type [.string a] = some (.lit (.string a.data.toList), []) := by simp [DataW.trod, s0, m0]
  have t1 : DataW.trod enc P w base spare held 1 f1.type [.string b] = some (.lit (.string b.data.toList), []) := by simp [DataW.trod, s1, m1]
  have t2 : DataW.trod enc P w base spare held 1 f2.type [.string c] = some (.lit (.string c.data.toList), []) := by simp [DataW.trod, s2, m2]
  have t3 : DataW.trod enc P w base spare held 1 f3.type [.string e] = some (.lit (.string e.data.toList), []) := by simp [DataW.trod, s3, m3]
  have t4 : DataW.trod enc P w base spare held 1 f4.type [.string f] = some (.lit (.string f.data.toList), []) := by simp [DataW.trod, s4, m4]
  have t5 : DataW.trod enc P w base spare held 1 f5.type [.bool x] = some (.lit (.bool x), []) := by simp [DataW.trod, s5]
  have t6 : DataW.trod enc P w base spare held 1 f6.type [.bool y] = some (.lit (.bool y), []) := by simp [DataW.trod, s6]
  have t7 : DataW.trod enc P w base spare held 1 f7.type [.bool z] = some (.lit (.bool z), []) := by simp [DataW.trod, s7]
  have t8 : DataW.trod enc P w base spare held 1 f8.type [.bool u] = some (.lit (.bool u), []) := by simp [DataW.trod, s8]
  refine ⟨2, ?_⟩
  have := trod_struct_mk (enc := enc) (w := w) (base := base) (spare := spare) (held := held) (n := 1) (cs := [.string a, .string b, .string c, .string e, .string f, .bool x, .bool y, .bool z, .bool u])
    (xs := [(.lit (.string a.data.toList), []), (.lit (.string b.data.toList), []), (.lit (.string c.data.toList), []), (.lit (.string e.data.toList), []), (.lit (.string f.data.toList), []), (.lit (.bool x), []), (.lit (.bool y), []), (.lit (.bool z), []), (.lit (.bool u), [])]) hs hC.symm
    (by simp [o0, o1, o2, o3, o4, o5, o6, o7, o8, k0, k1, k2, k3, k4, k5, k6, k7, k8, t0, t1, t2, t3, t4, t5, t6, t7, t8])
  simpa [Value.cells] using this
end

/-- What the bound gives: the texts' lengths. -/
theorem short {H : Type} {s a b c e f : ByteArray} {x y z u : Bool} (hk : Rows.uptoSmall H [.lit (.string s.data.toList), .agg [.lit (.string a.data.toList), .lit (.string b.data.toList), .lit (.string c.data.toList), .lit (.string e.data.toList), .lit (.string f.data.toList), .lit (.bool x), .lit (.bool y), .lit (.bool z), .lit (.bool u)]] = true) :
    s.size ≤ 1048576 ∧ ∀ q ∈ [a, b, c, e, f], q.size ≤ 1048576 := by
  have h := of_decide_eq_true hk
  simp only [Rows.uptoBulkAll, Rows.uptoBulk] at h
  have hsz : ∀ s : ByteArray, s.data.toList.length = s.size := fun s => by rw [Array.length_toList]; rfl
  rw [hsz, hsz, hsz, hsz, hsz, hsz] at h
  refine ⟨by omega, fun q hq => ?_⟩
  simp only [List.mem_cons, List.not_mem_nil, or_false] at hq
  rcases hq with rfl | rfl | rfl | rfl | rfl <;> omega

theorem contract (H : Type) (enc : TypeId × Value → H) (W : World) (base : Nat) (args : Array Value) (ds gs : List (DataW H)) (before : List MemPlace)
    (hval : ∀ (j : Nat) t v, Try.f3.params[j]? = some t → args[j]? = some v → Value.okWide Try.prog W .any base t v)
    (hW : DataW.Whole enc Try.prog Try.f3.params.toList Rows.linkPartsSpec.vars false W args.toList ds gs before) (hk : Rows.uptoSmall H (ds ++ gs) = true) :
    Calls Try.prog 3 args W fun e W' => ∃ v, e = .returned v ∧ Rows.linkPartsSpec.post enc Try.prog Try.f3 false true false false W args v W' := by
  have hW' := hW
  obtain ⟨p, q, hA0, hV, rfl, hfz, hnd⟩ := hW
  have hA : DataW.TrodAll enc Try.prog W 0 (fun _ => true) true Try.f3.params.toList args.toList ds p := hA0
  rw [Try.params3] at hA hval
  obtain ⟨v0, vs0, d0, ds0, p0, q0, hargs, rfl, rfl, h0, r0⟩ := trodAll_cons hA
  obtain ⟨v1, vs1, d1, ds1, p1, q1, rfl, rfl, rfl, h1, r1⟩ := trodAll_cons r0
  obtain ⟨rfl, rfl, rfl⟩ := trodAll_nil r1
  obtain rfl : args = #[v0, v1] := by cases args; simp_all
  obtain ⟨rfl, rfl⟩ := trodVars_none hV
  obtain ⟨s, rfl, rfl, rfl, hmax⟩ := open_string Try.underlying9 (hval 0 9 v0 rfl rfl) h0
  obtain ⟨a, b, c, e, f, x, y, z, u, rfl, rfl, rfl, m0, m1, m2, m3, m4⟩ := open_lk Try.underlying23 (by kernel_rfl) (by kernel_rfl) Try.underlying9 Try.underlying9 Try.underlying9 Try.underlying9 Try.underlying9 Try.underlying4 Try.underlying4 Try.underlying4 Try.underlying4 (hval 1 23 v1 rfl rfl) h1
  clear hA0
  simp only [List.append_nil] at hW' hk
  obtain ⟨k1, k2⟩ := short hk
  refine (linkParts_any s a b c e f x y z u W k1 k2).mono fun e' W' ⟨he, hb⟩ => ?_
  subst he
  exact ⟨_, rfl, _, _, _, [], [], [], hW', trodAll_cons_mk (shut_bool Try.underlying4 _) trodAll_mk0, trodAll_cons_mk (shut_string Try.underlying9 hmax) (trodAll_cons_mk (shut_lk Try.underlying23 (by kernel_rfl) (by kernel_rfl) Try.underlying9 Try.underlying9 Try.underlying9 Try.underlying9 Try.underlying9 Try.underlying4 Try.underlying4 Try.underlying4 Try.underlying4 m0 m1 m2 m3 m4) trodAll_mk0), rfl, hb.frame _, fun h => by cases h⟩

set_option maxRecDepth 100000 in
theorem lifted (os : Os) (started : os.Started) (H : Type) (enc : TypeId × Value → H) (F : Stop.Interp) :
    ReturnsInHanded {} Try.checked os 3 .any ((Rows.OpenSpec.upto Rows.linkPartsSpec).pre6 enc Try.prog Try.f3 Rows.linkPartsUptoRow.domain false) (((Rows.OpenSpec.upto Rows.linkPartsSpec).at F).post enc Try.prog Try.f3 false true false false) := by
  refine returnsInHanded_of_cond (C := Try.checked) (s := Rows.OpenSpec.upto Rows.linkPartsSpec) (k := Rows.uptoSmall) rfl own started (by kernel_rfl) Try.func3
    (OpenSpec.witness (enc := enc) (C := Try.checked) (s := Rows.OpenSpec.upto Rows.linkPartsSpec) (k := Rows.uptoSmall) rfl false ⟨#[], #[.string .empty, .agg #[.string .empty, .string .empty, .string .empty, .string .empty, .string .empty, .bool false, .bool false, .bool false, .bool false]], []⟩ 8 (by kernel_rfl) (by kernel_rfl) (by kernel_rfl)
      (x := ([.lit (.string []), .agg [.lit (.string []), .lit (.string []), .lit (.string []), .lit (.string []), .lit (.string []), .lit (.bool false), .lit (.bool false), .lit (.bool false), .lit (.bool false)]], [], [])) (by kernel_rfl) rfl (by kernel_rfl)) ?_
  intro W base args ds gs before hval hW _ hk _
  exact contract H enc W base args ds gs before hval hW hk

theorem proved : Rows.LinkPartsUptoSaid :=
  OpenClaim.holds_of_cond 3 Try.f3 rfl rfl rfl rfl rfl rfl rfl ⟨rfl, rfl, rfl, rfl, rfl⟩ rfl rfl rfl rfl rfl (by kernel_rfl) Try.func3 (by kernel_rfl)
    (of_decide_eq_true (by kernel_rfl)) (by unfold Func.isWrapper; first | (rw [if_pos (by decide +kernel)]; kernel_rfl) | (rw [if_neg (by decide +kernel)]; exact ⟨rfl, rfl⟩))
    (fun os started H enc _ F => lifted os started H enc F)
end Go.Proofs.Ytabagfhnkdhjdaa.lawParts
