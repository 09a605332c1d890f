/- StateNone returns true for every command, and the command reads behind the call as before; no condition. -/
import Derived.Test.YtphdffebnjekdaaGreatO22
import Derived.Test.YtphdffebnjekdaaGreatH22
import Derived.Test.YtphdffebnjekdaaGreatRows
import Derived.ChangeSame
import Derived.JoinedOf
import Derived.JoinedAt
import Derived.JoinedStill
import Derived.RowKit
import Derived.ProofKit
import Derived.Below
import Derived.Carry
namespace Go.Proofs.YtphdffebnjekdaaGreat
open Go Go.Xe Go.ChangeShapes Go.WideShapes Go.ChangeAt Go.RowKit
set_option maxRecDepth 100000
theorem own : ownKnob Tryz.prog.godebug = none := by kernel_rfl
theorem laidOut : laidOutB Tryz.prog = true := g6
theorem ctypes42 : Tryz.prog.cellTypes Tryz.prog.depth 42 = some [5, 30, 30, 9, 5, 2, 2, 2, 3, 9, 9, 5, 3, 2, 2, 2, 9, 3, 2, 9, 9, 3, 2, 2, 2, 9, 3, 9, 3, 3, 3, 5, 2] := by kernel_rfl
theorem cell_int {P : Program} {w : World} {r : Reach} {b : Nat} {t : TypeId} {k : IntKind} {v : Value} (ht : P.underlying t = some (.int k)) (h : Cell.okWide P w r b t v) : ∃ n, v = .int k n := by
  unfold Cell.okWide Cell.ok at h
  rw [ht] at h
  cases v <;> simp at h
  obtain ⟨rfl, _⟩ := h
  exact ⟨_, rfl⟩
theorem cell_str {P : Program} {w : World} {r : Reach} {b : Nat} {t : TypeId} {v : Value} (ht : P.underlying t = some .string) (h : Cell.okWide P w r b t v) : ∃ s, v = .string s := by
  unfold Cell.okWide Cell.ok at h
  rw [ht] at h
  cases v <;> simp at h
  exact ⟨_, rfl⟩

theorem opened {W : World} {b : Nat} {v : Value} (h : Value.okWide Tryz.prog W .any b 42 v) : ∃ (n0 n1 n2 n4 n5 n6 n7 n8 n11 n12 n13 n14 n15 n17 n18 n21 n22 n23 n24 n26 n28 n29 n30 n31 n32 : Int) (s3 s9 s10 s16 s19 s20 s25 s27 : ByteArray), v = cmd n0 n1 n2 n4 n5 n6 n7 n8 n11 n12 n13 n14 n15 n17 n18 n21 n22 n23 n24 n26 n28 n29 n30 n31 n32 s3 s9 s10 s16 s19 s20 s25 s27 := by
  have hu : ∃ fs, Tryz.prog.underlying 42 = some (.struct fs) := ⟨_, Tryz.underlying42⟩
  obtain ⟨fs, hu⟩ := hu
  simp only [Value.okWide, hu] at h
  obtain ⟨cs, rfl, hsz, ts, hts, _, hc⟩ := h
  rw [ctypes42] at hts
  cases hts
  have hsz : cs.size = 33 := hsz.trans (by kernel_rfl)
  obtain ⟨l⟩ := cs
  have hl : l.length = 33 := hsz
  match l, hl, hc with
  | c0 :: c1 :: c2 :: c3 :: c4 :: c5 :: c6 :: c7 :: c8 :: c9 :: c10 :: c11 :: c12 :: c13 :: c14 :: c15 :: c16 :: c17 :: c18 :: c19 :: c20 :: c21 :: c22 :: c23 :: c24 :: c25 :: c26 :: c27 :: c28 :: c29 :: c30 :: c31 :: c32 :: [], _, hc =>
  obtain ⟨n0, e0⟩ : ∃ x, c0 = .int .u8 x := by
    obtain ⟨u, hu1, hu2⟩ := hc 0 c0 rfl
    cases (show some 5 = some u from hu1)
    exact cell_int Tryz.underlying5 hu2
  obtain ⟨n1, e1⟩ : ∃ x, c1 = .int .u64 x := by
    obtain ⟨u, hu1, hu2⟩ := hc 1 c1 rfl
    cases (show some 30 = some u from hu1)
    exact cell_int Tryz.underlying30 hu2
  obtain ⟨n2, e2⟩ : ∃ x, c2 = .int .u64 x := by
    obtain ⟨u, hu1, hu2⟩ := hc 2 c2 rfl
    cases (show some 30 = some u from hu1)
    exact cell_int Tryz.underlying30 hu2
  obtain ⟨s3, e3⟩ : ∃ x, c3 = .string x := by
    obtain ⟨u, hu1, hu2⟩ := hc 3 c3 rfl
    cases (show some 9 = some u from hu1)
    exact cell_str Tryz.underlying9 hu2
  obtain ⟨n4, e4⟩ : ∃ x, c4 = .int .u8 x := by
    obtain ⟨u, hu1, hu2⟩ := hc 4 c4 rfl
    cases (show some 5 = some u from hu1)
    exact cell_int Tryz.underlying5 hu2
  obtain ⟨n5, e5⟩ : ∃ x, c5 = .int .i64 x := by
    obtain ⟨u, hu1, hu2⟩ := hc 5 c5 rfl
    cases (show some 2 = some u from hu1)
    exact cell_int Tryz.underlying2 hu2
  obtain ⟨n6, e6⟩ : ∃ x, c6 = .int .i64 x := by
    obtain ⟨u, hu1, hu2⟩ := hc 6 c6 rfl
    cases (show some 2 = some u from hu1)
    exact cell_int Tryz.underlying2 hu2
  obtain ⟨n7, e7⟩ : ∃ x, c7 = .int .i64 x := by
    obtain ⟨u, hu1, hu2⟩ := hc 7 c7 rfl
    cases (show some 2 = some u from hu1)
    exact cell_int Tryz.underlying2 hu2
  obtain ⟨n8, e8⟩ : ∃ x, c8 = .int .i64 x := by
    obtain ⟨u, hu1, hu2⟩ := hc 8 c8 rfl
    cases (show some 3 = some u from hu1)
    exact cell_int Tryz.underlying3 hu2
  obtain ⟨s9, e9⟩ : ∃ x, c9 = .string x := by
    obtain ⟨u, hu1, hu2⟩ := hc 9 c9 rfl
    cases (show some 9 = some u from hu1)
    exact cell_str Tryz.underlying9 hu2
  obtain ⟨s10, e10⟩ : ∃ x, c10 = .string x := by
    obtain ⟨u, hu1, hu2⟩ := hc 10 c10 rfl
    cases (show some 9 = some u from hu1)
    exact cell_str Tryz.underlying9 hu2
  obtain ⟨n11, e11⟩ : ∃ x, c11 = .int .u8 x := by
    obtain ⟨u, hu1, hu2⟩ := hc 11 c11 rfl
    cases (show some 5 = some u from hu1)
    exact cell_int Tryz.underlying5 hu2
  obtain ⟨n12, e12⟩ : ∃ x, c12 = .int .i64 x := by
    obtain ⟨u, hu1, hu2⟩ := hc 12 c12 rfl
    cases (show some 3 = some u from hu1)
    exact cell_int Tryz.underlying3 hu2
  obtain ⟨n13, e13⟩ : ∃ x, c13 = .int .i64 x := by
    obtain ⟨u, hu1, hu2⟩ := hc 13 c13 rfl
    cases (show some 2 = some u from hu1)
    exact cell_int Tryz.underlying2 hu2
  obtain ⟨n14, e14⟩ : ∃ x, c14 = .int .i64 x := by
    obtain ⟨u, hu1, hu2⟩ := hc 14 c14 rfl
    cases (show some 2 = some u from hu1)
    exact cell_int Tryz.underlying2 hu2
  obtain ⟨n15, e15⟩ : ∃ x, c15 = .int .i64 x := by
    obtain ⟨u, hu1, hu2⟩ := hc 15 c15 rfl
    cases (show some 2 = some u from hu1)
    exact cell_int Tryz.underlying2 hu2
  obtain ⟨s16, e16⟩ : ∃ x, c16 = .string x := by
    obtain ⟨u, hu1, hu2⟩ := hc 16 c16 rfl
    cases (show some 9 = some u from hu1)
    exact cell_str Tryz.underlying9 hu2
  obtain ⟨n17, e17⟩ : ∃ x, c17 = .int .i64 x := by
    obtain ⟨u, hu1, hu2⟩ := hc 17 c17 rfl
    cases (show some 3 = some u from hu1)
    exact cell_int Tryz.underlying3 hu2
  obtain ⟨n18, e18⟩ : ∃ x, c18 = .int .i64 x := by
    obtain ⟨u, hu1, hu2⟩ := hc 18 c18 rfl
    cases (show some 2 = some u from hu1)
    exact cell_int Tryz.underlying2 hu2
  obtain ⟨s19, e19⟩ : ∃ x, c19 = .string x := by
    obtain ⟨u, hu1, hu2⟩ := hc 19 c19 rfl
    cases (show some 9 = some u from hu1)
    exact cell_str Tryz.underlying9 hu2
  obtain ⟨s20, e20⟩ : ∃ x, c20 = .string x := by
    obtain ⟨u, hu1, hu2⟩ := hc 20 c20 rfl
    cases (show some 9 = some u from hu1)
    exact cell_str Tryz.underlying9 hu2
  obtain ⟨n21, e21⟩ : ∃ x, c21 = .int .i64 x := by
    obtain ⟨u, hu1, hu2⟩ := hc 21 c21 rfl
    cases (show some 3 = some u from hu1)
    exact cell_int Tryz.underlying3 hu2
  obtain ⟨n22, e22⟩ : ∃ x, c22 = .int .i64 x := by
    obtain ⟨u, hu1, hu2⟩ := hc 22 c22 rfl
    cases (show some 2 = some u from hu1)
    exact cell_int Tryz.underlying2 hu2
  obtain ⟨n23, e23⟩ : ∃ x, c23 = .int .i64 x := by
    obtain ⟨u, hu1, hu2⟩ := hc 23 c23 rfl
    cases (show some 2 = some u from hu1)
    exact cell_int Tryz.underlying2 hu2
  obtain ⟨n24, e24⟩ : ∃ x, c24 = .int .i64 x := by
    obtain ⟨u, hu1, hu2⟩ := hc 24 c24 rfl
    cases (show some 2 = some u from hu1)
    exact cell_int Tryz.underlying2 hu2
  obtain ⟨s25, e25⟩ : ∃ x, c25 = .string x := by
    obtain ⟨u, hu1, hu2⟩ := hc 25 c25 rfl
    cases (show some 9 = some u from hu1)
    exact cell_str Tryz.underlying9 hu2
  obtain ⟨n26, e26⟩ : ∃ x, c26 = .int .i64 x := by
    obtain ⟨u, hu1, hu2⟩ := hc 26 c26 rfl
    cases (show some 3 = some u from hu1)
    exact cell_int Tryz.underlying3 hu2
  obtain ⟨s27, e27⟩ : ∃ x, c27 = .string x := by
    obtain ⟨u, hu1, hu2⟩ := hc 27 c27 rfl
    cases (show some 9 = some u from hu1)
    exact cell_str Tryz.underlying9 hu2
  obtain ⟨n28, e28⟩ : ∃ x, c28 = .int .i64 x := by
    obtain ⟨u, hu1, hu2⟩ := hc 28 c28 rfl
    cases (show some 3 = some u from hu1)
    exact cell_int Tryz.underlying3 hu2
  obtain ⟨n29, e29⟩ : ∃ x, c29 = .int .i64 x := by
    obtain ⟨u, hu1, hu2⟩ := hc 29 c29 rfl
    cases (show some 3 = some u from hu1)
    exact cell_int Tryz.underlying3 hu2
  obtain ⟨n30, e30⟩ : ∃ x, c30 = .int .i64 x := by
    obtain ⟨u, hu1, hu2⟩ := hc 30 c30 rfl
    cases (show some 3 = some u from hu1)
    exact cell_int Tryz.underlying3 hu2
  obtain ⟨n31, e31⟩ : ∃ x, c31 = .int .u8 x := by
    obtain ⟨u, hu1, hu2⟩ := hc 31 c31 rfl
    cases (show some 5 = some u from hu1)
    exact cell_int Tryz.underlying5 hu2
  obtain ⟨n32, e32⟩ : ∃ x, c32 = .int .i64 x := by
    obtain ⟨u, hu1, hu2⟩ := hc 32 c32 rfl
    cases (show some 2 = some u from hu1)
    exact cell_int Tryz.underlying2 hu2
  subst e0 e1 e2 e3 e4 e5 e6 e7 e8 e9 e10 e11 e12 e13 e14 e15 e16 e17 e18 e19 e20 e21 e22 e23 e24 e25 e26 e27 e28 e29 e30 e31 e32
  exact ⟨n0, n1, n2, n4, n5, n6, n7, n8, n11, n12, n13, n14, n15, n17, n18, n21, n22, n23, n24, n26, n28, n29, n30, n31, n32, s3, s9, s10, s16, s19, s20, s25, s27, rfl⟩
theorem read42 : Tryz.prog.readableRec 42 = true := by kernel_rfl
theorem row42 : 42 < Tryz.prog.types.size := of_decide_eq_true (by kernel_rfl)
theorem lifted (os : Os) (started : os.Started) (H : Type) (enc : TypeId × Value → H) :
    ReturnsInHanded {} Tryz.checked os 4 .any (Rows.stateNoneSpec.pre6 enc Tryz.prog Tryz.f4 Rows.stateNoneRow.domain false) (Rows.stateNoneSpec.post enc Tryz.prog Tryz.f4 false true false false) := by
  refine returnsInHanded_of_change (C := Tryz.checked) own started (by kernel_rfl) Tryz.func4
    (ChangeSpec.witness6 (enc := enc) (C := Tryz.checked) false ⟨#[], #[.agg #[.int .u8 0, .int .u64 0, .int .u64 0, .string ⟨#[]⟩, .int .u8 0, .int .i64 0, .int .i64 0, .int .i64 0, .int .i64 0, .string ⟨#[]⟩, .string ⟨#[]⟩, .int .u8 0, .int .i64 0, .int .i64 0, .int .i64 0, .int .i64 0, .string ⟨#[]⟩, .int .i64 0, .int .i64 0, .string ⟨#[]⟩, .string ⟨#[]⟩, .int .i64 0, .int .i64 0, .int .i64 0, .int .i64 0, .string ⟨#[]⟩, .int .i64 0, .string ⟨#[]⟩, .int .i64 0, .int .i64 0, .int .i64 0, .int .u8 0, .int .i64 0]], []⟩ 8 (by kernel_rfl) (by kernel_rfl) (by kernel_rfl) (by kernel_rfl)) ?_
  intro W base args ds gs before hval0 hW hcnd0 _
  have hval : ∀ (j : Nat) t v, Tryz.f4.params[j]? = some t → args[j]? = some v → Value.okWide Tryz.prog W .any base t v := hval0
  have hW' := hW
  obtain ⟨p, q, hA0, hV, rfl, _, _⟩ := hW
  have hA : DataW.TrodAll enc Tryz.prog W 0 (fun _ => true) true Tryz.f4.params.toList args.toList ds p := hA0
  rw [Tryz.params4] at hA hval
  obtain ⟨v0, d0, rfl, rfl, h0⟩ := trodAll_one hA
  obtain ⟨rfl, rfl⟩ := trodVars_none hV
  simp only [List.append_nil] at hW'
  have hlt : ∀ x ∈ p, x.block < W.heap.size := fun x hx => by simpa using hW'.lt x hx
  obtain ⟨n0, n1, n2, n4, n5, n6, n7, n8, n11, n12, n13, n14, n15, n17, n18, n21, n22, n23, n24, n26, n28, n29, n30, n31, n32, s3, s9, s10, s16, s19, s20, s25, s27, e⟩ := opened (hval 0 42 v0 rfl rfl)
  subst e
  refine (none_calls n0 n1 n2 n4 n5 n6 n7 n8 n11 n12 n13 n14 n15 n17 n18 n21 n22 n23 n24 n26 n28 n29 n30 n31 n32 s3 s9 s10 s16 s19 s20 s25 s27 W).mono fun e W' ⟨he, hb⟩ => ?_
  have hargs : DataW.Trod enc Tryz.prog W' 0 (fun b => decide (b < W.heap.size)) true 42 (cmd n0 n1 n2 n4 n5 n6 n7 n8 n11 n12 n13 n14 n15 n17 n18 n21 n22 n23 n24 n26 n28 n29 n30 n31 n32 s3 s9 s10 s16 s19 s20 s25 s27) d0 p := Below.trod laidOut read42 row42 h0 hb hlt
  exact ⟨_, he, ⟨_, _, _, [], _, [], hW', trodAll_mk1 (shut_bool Tryz.underlying4 _), trodAll_mk1 hargs, rfl, hb.frame _, fun h => by cases h⟩⟩
theorem named4 : Tryz.pinned.checked.prog.funcNamed Rows.stateNoneRow.func = some 4 := by kernel_rfl
theorem and_t {a b : Bool} (h : a = true) (k : b = true) : (a && b) = true := by rw [h, k]; rfl
theorem closed4 : joinedFacts Tryz.pinned.checked.prog 4 Tryz.f4 Rows.stateNoneSpec Rows.stateNoneRow = true := by
  unfold joinedFacts
  refine and_t (and_t (and_t (and_t (and_t (and_t (and_t (and_t (and_t (and_t (and_t (and_t (and_t (and_t (and_t (and_t (and_t (and_t (and_t (and_t (and_t (and_t (and_t (and_t (and_t (and_t (and_t (and_t (and_t (and_t (and_t g5 g6) g7) ?_) ?_) ?_) ?_) ?_) ?_) g1) g2) g3) g4) ?_) ?_) ?_) ?_) ?_) ?_) ?_) ?_) ?_) g12) ?_) g8) g9) g10) g11) ?_) ?_) ?_) ?_ <;> kernel_rfl
theorem inst4 : Tryz.f4.isInstance Tryz.pinned.checked.prog Rows.stateNoneRow.origin Rows.stateNoneRow.targs := of_decide_eq_true (by kernel_rfl)
theorem stateNone_holds : Rows.StateNoneSaid :=
  OpenClaim.holds_of_wide 4 Tryz.f4 rfl rfl rfl rfl rfl rfl rfl ⟨rfl, rfl, rfl, rfl, rfl⟩ rfl rfl rfl rfl rfl named4 Tryz.func4 closed4
    inst4 (by unfold Func.isWrapper; first | (rw [if_pos (by decide +kernel)]; kernel_rfl) | (rw [if_neg (by decide +kernel)]; exact ⟨rfl, rfl⟩))
    (fun os started H enc _ => lifted os started H enc)
#print axioms stateNone_holds
end Go.Proofs.YtphdffebnjekdaaGreat
