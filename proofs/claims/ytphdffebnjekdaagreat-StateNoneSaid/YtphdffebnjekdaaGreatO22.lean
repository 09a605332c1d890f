/- The contract of StateNone: it returns true for every command, and leaves what lay there. -/
import Derived.Test.YtphdffebnjekdaaGreatD22
namespace Go.Xe
open Go Go.Proofs Go.RowKit
set_option maxRecDepth 100000
noncomputable def leaf (t : Option IntKind) (v : AV) : Bool := match t, v with
  | some k, .int j _ => eqK k j
  | none, .lit (.string _) => true
  | _, _ => false
noncomputable def shape : List (Option IntKind) → List AV → Bool
  | [], [] => true
  | t :: ts, v :: vs => leaf t v && shape ts vs
  | _, _ => false
def spec : List (Option IntKind) := some .u8 :: some .u64 :: some .u64 :: none :: some .u8 :: some .i64 :: some .i64 :: some .i64 :: some .i64 :: none :: none :: some .u8 :: some .i64 :: some .i64 :: some .i64 :: some .i64 :: none :: some .i64 :: some .i64 :: none :: none :: some .i64 :: some .i64 :: some .i64 :: some .i64 :: none :: some .i64 :: none :: some .i64 :: some .i64 :: some .i64 :: some .u8 :: some .i64 :: []
theorem leaf_int {k : IntKind} {v : AV} (h : leaf (some k) v = true) : ∃ n, v = .int k n := by
  unfold leaf at h
  cases v with
  | int j n => exact ⟨n, by rw [eqK_iff.1 h]⟩
  | lit u => cases u <;> exact ft h
  | _ => exact ft h
theorem leaf_str {v : AV} (h : leaf none v = true) : ∃ s, v = .lit (.string s) := by
  unfold leaf at h
  cases v with
  | lit u => cases u with
    | string s => exact ⟨s, rfl⟩
    | _ => exact ft h
  | _ => exact ft h
theorem shape_cons {t : Option IntKind} {ts : List (Option IntKind)} {l : List AV} (h : shape (t :: ts) l = true) : ∃ v vs, l = v :: vs ∧ leaf t v = true ∧ shape ts vs = true := by
  cases l with
  | nil => exact ft h
  | cons v vs => exact ⟨v, vs, rfl, (Bool.and_eq_true _ _ ▸ h : _ ∧ _).1, (Bool.and_eq_true _ _ ▸ h : _ ∧ _).2⟩
theorem shape_nil {l : List AV} (h : shape [] l = true) : l = [] := by
  cases l with
  | nil => rfl
  | cons v vs => exact ft h

theorem shape_spec {l : List AV} (h0 : shape spec l = true) : ∃ (n0 n1 n2 n4 n5 n6 n7 n8 n11 n12 n13 n14 n15 n17 n18 n21 n22 n23 n24 n26 n28 n29 n30 n31 n32 : Int) (s3 s9 s10 s16 s19 s20 s25 s27 : ByteArray), AV.agg l = cmdA n0 n1 n2 n4 n5 n6 n7 n8 n11 n12 n13 n14 n15 n17 n18 n21 n22 n23 n24 n26 n28 n29 n30 n31 n32 s3 s9 s10 s16 s19 s20 s25 s27 := by
  unfold spec at h0
  obtain ⟨v0, l1, el0, e0, h1⟩ := shape_cons h0
  obtain ⟨n0, ev0⟩ := leaf_int e0
  subst ev0
  obtain ⟨v1, l2, el1, e1, h2⟩ := shape_cons h1
  obtain ⟨n1, ev1⟩ := leaf_int e1
  subst ev1
  obtain ⟨v2, l3, el2, e2, h3⟩ := shape_cons h2
  obtain ⟨n2, ev2⟩ := leaf_int e2
  subst ev2
  obtain ⟨v3, l4, el3, e3, h4⟩ := shape_cons h3
  obtain ⟨s3, ev3⟩ := leaf_str e3
  subst ev3
  obtain ⟨v4, l5, el4, e4, h5⟩ := shape_cons h4
  obtain ⟨n4, ev4⟩ := leaf_int e4
  subst ev4
  obtain ⟨v5, l6, el5, e5, h6⟩ := shape_cons h5
  obtain ⟨n5, ev5⟩ := leaf_int e5
  subst ev5
  obtain ⟨v6, l7, el6, e6, h7⟩ := shape_cons h6
  obtain ⟨n6, ev6⟩ := leaf_int e6
  subst ev6
  obtain ⟨v7, l8, el7, e7, h8⟩ := shape_cons h7
  obtain ⟨n7, ev7⟩ := leaf_int e7
  subst ev7
  obtain ⟨v8, l9, el8, e8, h9⟩ := shape_cons h8
  obtain ⟨n8, ev8⟩ := leaf_int e8
  subst ev8
  obtain ⟨v9, l10, el9, e9, h10⟩ := shape_cons h9
  obtain ⟨s9, ev9⟩ := leaf_str e9
  subst ev9
  obtain ⟨v10, l11, el10, e10, h11⟩ := shape_cons h10
  obtain ⟨s10, ev10⟩ := leaf_str e10
  subst ev10
  obtain ⟨v11, l12, el11, e11, h12⟩ := shape_cons h11
  obtain ⟨n11, ev11⟩ := leaf_int e11
  subst ev11
  obtain ⟨v12, l13, el12, e12, h13⟩ := shape_cons h12
  obtain ⟨n12, ev12⟩ := leaf_int e12
  subst ev12
  obtain ⟨v13, l14, el13, e13, h14⟩ := shape_cons h13
  obtain ⟨n13, ev13⟩ := leaf_int e13
  subst ev13
  obtain ⟨v14, l15, el14, e14, h15⟩ := shape_cons h14
  obtain ⟨n14, ev14⟩ := leaf_int e14
  subst ev14
  obtain ⟨v15, l16, el15, e15, h16⟩ := shape_cons h15
  obtain ⟨n15, ev15⟩ := leaf_int e15
  subst ev15
  obtain ⟨v16, l17, el16, e16, h17⟩ := shape_cons h16
  obtain ⟨s16, ev16⟩ := leaf_str e16
  subst ev16
  obtain ⟨v17, l18, el17, e17, h18⟩ := shape_cons h17
  obtain ⟨n17, ev17⟩ := leaf_int e17
  subst ev17
  obtain ⟨v18, l19, el18, e18, h19⟩ := shape_cons h18
  obtain ⟨n18, ev18⟩ := leaf_int e18
  subst ev18
  obtain ⟨v19, l20, el19, e19, h20⟩ := shape_cons h19
  obtain ⟨s19, ev19⟩ := leaf_str e19
  subst ev19
  obtain ⟨v20, l21, el20, e20, h21⟩ := shape_cons h20
  obtain ⟨s20, ev20⟩ := leaf_str e20
  subst ev20
  obtain ⟨v21, l22, el21, e21, h22⟩ := shape_cons h21
  obtain ⟨n21, ev21⟩ := leaf_int e21
  subst ev21
  obtain ⟨v22, l23, el22, e22, h23⟩ := shape_cons h22
  obtain ⟨n22, ev22⟩ := leaf_int e22
  subst ev22
  obtain ⟨v23, l24, el23, e23, h24⟩ := shape_cons h23
  obtain ⟨n23, ev23⟩ := leaf_int e23
  subst ev23
  obtain ⟨v24, l25, el24, e24, h25⟩ := shape_cons h24
  obtain ⟨n24, ev24⟩ := leaf_int e24
  subst ev24
  obtain ⟨v25, l26, el25, e25, h26⟩ := shape_cons h25
  obtain ⟨s25, ev25⟩ := leaf_str e25
  subst ev25
  obtain ⟨v26, l27, el26, e26, h27⟩ := shape_cons h26
  obtain ⟨n26, ev26⟩ := leaf_int e26
  subst ev26
  obtain ⟨v27, l28, el27, e27, h28⟩ := shape_cons h27
  obtain ⟨s27, ev27⟩ := leaf_str e27
  subst ev27
  obtain ⟨v28, l29, el28, e28, h29⟩ := shape_cons h28
  obtain ⟨n28, ev28⟩ := leaf_int e28
  subst ev28
  obtain ⟨v29, l30, el29, e29, h30⟩ := shape_cons h29
  obtain ⟨n29, ev29⟩ := leaf_int e29
  subst ev29
  obtain ⟨v30, l31, el30, e30, h31⟩ := shape_cons h30
  obtain ⟨n30, ev30⟩ := leaf_int e30
  subst ev30
  obtain ⟨v31, l32, el31, e31, h32⟩ := shape_cons h31
  obtain ⟨n31, ev31⟩ := leaf_int e31
  subst ev31
  obtain ⟨v32, l33, el32, e32, h33⟩ := shape_cons h32
  obtain ⟨n32, ev32⟩ := leaf_int e32
  subst ev32
  have hl := shape_nil h33
  subst hl
  subst el32 el31 el30 el29 el28 el27 el26 el25 el24 el23 el22 el21 el20 el19 el18 el17 el16 el15 el14 el13 el12 el11 el10 el9 el8 el7 el6 el5 el4 el3 el2 el1 el0
  exact ⟨n0, n1, n2, n4, n5, n6, n7, n8, n11, n12, n13, n14, n15, n17, n18, n21, n22, n23, n24, n26, n28, n29, n30, n31, n32, s3, s9, s10, s16, s19, s20, s25, s27, rfl⟩
theorem apply_run' : ∀ (n0 n1 n2 n4 n5 n6 n7 n8 n11 n12 n13 n14 n15 n17 n18 n21 n22 n23 n24 n26 n28 n29 n30 n31 n32 : Int) (s3 s9 s10 s16 s19 s20 s25 s27 : ByteArray), lev Tryz.prog tb 5 false (.func (.mk .d0 .d0 .dc) [] []) [.nilp, cmdA n0 n1 n2 n4 n5 n6 n7 n8 n11 n12 n13 n14 n15 n17 n18 n21 n22 n23 n24 n26 n28 n29 n30 n31 n32 s3 s9 s10 s16 s19 s20 s25 s27] heap0 (isA (.int .i64 1)) = true
  | .ofNat 0, n1, n2, n4, n5, n6, n7, n8, n11, n12, n13, n14, n15, n17, n18, n21, n22, n23, n24, n26, n28, n29, n30, n31, n32, s3, s9, s10, s16, s19, s20, s25, s27 => by kernel_rfl
  | .ofNat 1, n1, n2, n4, n5, n6, n7, n8, n11, n12, n13, n14, n15, n17, n18, n21, n22, n23, n24, n26, n28, n29, n30, n31, n32, s3, s9, s10, s16, s19, s20, s25, s27 => by kernel_rfl
  | .ofNat 2, n1, n2, n4, n5, n6, n7, n8, n11, n12, n13, n14, n15, n17, n18, n21, n22, n23, n24, n26, n28, n29, n30, n31, n32, s3, s9, s10, s16, s19, s20, s25, s27 => by kernel_rfl
  | .ofNat 3, n1, n2, n4, n5, n6, n7, n8, n11, n12, n13, n14, n15, n17, n18, n21, n22, n23, n24, n26, n28, n29, n30, n31, n32, s3, s9, s10, s16, s19, s20, s25, s27 => by kernel_rfl
  | .ofNat 4, n1, n2, n4, n5, n6, n7, n8, n11, n12, n13, n14, n15, n17, n18, n21, n22, n23, n24, n26, n28, n29, n30, n31, n32, s3, s9, s10, s16, s19, s20, s25, s27 => by kernel_rfl
  | .ofNat 5, n1, n2, n4, n5, n6, n7, n8, n11, n12, n13, n14, n15, n17, n18, n21, n22, n23, n24, n26, n28, n29, n30, n31, n32, s3, s9, s10, s16, s19, s20, s25, s27 => by kernel_rfl
  | .ofNat 6, n1, n2, n4, n5, n6, n7, n8, n11, n12, n13, n14, n15, n17, n18, n21, n22, n23, n24, n26, n28, n29, n30, n31, n32, s3, s9, s10, s16, s19, s20, s25, s27 => by kernel_rfl
  | .ofNat (_ + 7), n1, n2, n4, n5, n6, n7, n8, n11, n12, n13, n14, n15, n17, n18, n21, n22, n23, n24, n26, n28, n29, n30, n31, n32, s3, s9, s10, s16, s19, s20, s25, s27 => by kernel_rfl
  | .negSucc _, n1, n2, n4, n5, n6, n7, n8, n11, n12, n13, n14, n15, n17, n18, n21, n22, n23, n24, n26, n28, n29, n30, n31, n32, s3, s9, s10, s16, s19, s20, s25, s27 => by kernel_rfl
theorem apply_calls' (n0 n1 n2 n4 n5 n6 n7 n8 n11 n12 n13 n14 n15 n17 n18 n21 n22 n23 n24 n26 n28 n29 n30 n31 n32 : Int) (s3 s9 s10 s16 s19 s20 s25 s27 : ByteArray) (w : World) :
    Calls Tryz.prog 12 #[.pointer none, cmd n0 n1 n2 n4 n5 n6 n7 n8 n11 n12 n13 n14 n15 n17 n18 n21 n22 n23 n24 n26 n28 n29 n30 n31 n32 s3 s9 s10 s16 s19 s20 s25 s27] w fun e w' => e = .returned (.int .i64 1) ∧ Below w.heap.size w w' := by
  obtain ⟨res, H', h1, h2⟩ := callB_sound tabOK mixed (apply_run' n0 n1 n2 n4 n5 n6 n7 n8 n11 n12 n13 n14 n15 n17 n18 n21 n22 n23 n24 n26 n28 n29 n30 n31 n32 s3 s9 s10 s16 s19 s20 s25 s27) (gvs_cmdA n0 n1 n2 n4 n5 n6 n7 n8 n11 n12 n13 n14 n15 n17 n18 n21 n22 n23 n24 n26 n28 n29 n30 n31 n32 s3 s9 s10 s16 s19 s20 s25 s27 _)
  have h1 := isA_eq h1
  subst h1
  refine (callsIn_wide (n := 0)).1 ((show CallsIn Fence.wide 0 _ _ _ _ _ from h2 none w).mono fun e w' hh => ?_)
  obtain ⟨⟨u, s', rfl, hu⟩, hb⟩ := hh
  rw [gvv_int hu rfl]
  exact ⟨rfl, hb⟩

theorem gv_leaves {l : List AV} (h : shape spec l = true) : ∃ c, (∀ s, gv s (.agg l) = some c) ∧ (∀ w, Calls Tryz.prog 12 #[.pointer none, c] w fun e w' => e = .returned (.int .i64 1) ∧ Below w.heap.size w w') ∧ ∃ m, ∀ w, Calls Tryz.prog 16 #[c] w fun e w' => e = .returned (.int .i64 m) ∧ Below w.heap.size w w' := by
  obtain ⟨n0, n1, n2, n4, n5, n6, n7, n8, n11, n12, n13, n14, n15, n17, n18, n21, n22, n23, n24, n26, n28, n29, n30, n31, n32, s3, s9, s10, s16, s19, s20, s25, s27, e⟩ := shape_spec h
  rw [e]
  refine ⟨cmd n0 n1 n2 n4 n5 n6 n7 n8 n11 n12 n13 n14 n15 n17 n18 n21 n22 n23 n24 n26 n28 n29 n30 n31 n32 s3 s9 s10 s16 s19 s20 s25 s27, fun s => ?_, apply_calls' n0 n1 n2 n4 n5 n6 n7 n8 n11 n12 n13 n14 n15 n17 n18 n21 n22 n23 n24 n26 n28 n29 n30 n31 n32 s3 s9 s10 s16 s19 s20 s25 s27, size_calls⟩
  have := gvs_cmdA n0 n1 n2 n4 n5 n6 n7 n8 n11 n12 n13 n14 n15 n17 n18 n21 n22 n23 n24 n26 n28 n29 n30 n31 n32 s3 s9 s10 s16 s19 s20 s25 s27 s
  obtain ⟨v, vs, h1, h2, h3⟩ := gvs_cons.1 this
  obtain ⟨v', vs', h4, h5, h6⟩ := gvs_cons.1 h2
  cases h3; cases h6
  exact h4
noncomputable def orc (M : List AV → Int) : CallT := fun fl v args H k => match v, args, fl with
  | .func ⟨.d0, .d1, .d0⟩ [] [], [.agg l], false => chk (shape spec l) (k (.int .i64 (M l)) H)
  | .func ⟨.d0, .d0, .dc⟩ [] [], [.nilp, .agg l], false => chk (shape spec l) (k (.int .i64 1) H)
  | .func ⟨.d0, .d0, .da⟩ [] [], [], false => k (.bool true) H
  | v, args, fl => lev Tryz.prog tb 60 fl v args H k
noncomputable def MM (l : List AV) : Int := open Classical in if h : shape spec l = true then Classical.choose (Classical.choose_spec (gv_leaves h)).2.2 else 0
theorem below_ev {P : Program} {s : Pl} {H : Heap} {w w' : World} (hR : Rel P s H w) (h : Below w.heap.size w w') : Ev P s H w s H w' := by
  refine ⟨.refl s, ⟨h.os, h.tape, h.output, h.size, fun k hk _ => h.block k hk⟩, fun _ h => .inl h, ⟨fun i b hi => ?_, hR.inj, hR.nx⟩, Nat.le_refl _⟩
  obtain ⟨L, h1, h2⟩ := hR.blk i b hi
  exact ⟨L, h1, by rw [h.block L.b (hR.lt hi h1)]; exact h2⟩
theorem func16_ok : ∃ fn, Tryz.prog.funcs[(Fid.mk .d0 .d1 .d0).toNat]? = some fn ∧ (fn.name == "runtime.NumGoroutine") = false ∧ fn.body.isNone = false := ⟨_, Tryz.func16, by kernel_rfl, by kernel_rfl⟩
theorem func12_ok : ∃ fn, Tryz.prog.funcs[(Fid.mk .d0 .d0 .dc).toNat]? = some fn ∧ (fn.name == "runtime.NumGoroutine") = false ∧ fn.body.isNone = false := ⟨_, Tryz.func12, by kernel_rfl, by kernel_rfl⟩
theorem func10_ok : ∃ fn, Tryz.prog.funcs[(Fid.mk .d0 .d0 .da).toNat]? = some fn ∧ (fn.name == "runtime.NumGoroutine") = false ∧ fn.body.isNone = false := ⟨_, Tryz.func10, by kernel_rfl, by kernel_rfl⟩
theorem orc_ok : CallOK Tryz.prog (orc MM) := fun fl v args H k h => by
  unfold orc at h
  split at h
  · rename_i l
    obtain ⟨h1, h2⟩ := chk_iff.1 h
    refine ⟨_, _, h2, .inl ⟨_, _, _, rfl, func16_ok, fun s w vs hR hvs => ⟨fun ro => ?_, fun e => by cases e⟩⟩⟩
    have hc := Classical.choose_spec (gv_leaves h1)
    have hm := Classical.choose_spec hc.2.2
    obtain ⟨u, us, e1, e2, rfl⟩ := gvs_cons.1 (show gvs s (.agg l :: []) = some vs from hvs)
    cases e2
    rw [hc.1 s] at e1
    cases e1
    have hM : MM l = Classical.choose hc.2.2 := by unfold MM; rw [dif_pos h1]
    rw [hM]
    refine CallsIn.mono (show CallsIn (fz ro) 0 Tryz.prog 16 #[_] w _ from (callsIn_wide (n := 0)).2 (hm w)) fun e w' hh => ?_
    obtain ⟨rfl, hb⟩ := hh
    exact ⟨_, s, rfl, rfl, below_ev hR hb⟩
  · rename_i l
    obtain ⟨h1, h2⟩ := chk_iff.1 h
    refine ⟨_, _, h2, .inl ⟨_, _, _, rfl, func12_ok, fun s w vs hR hvs => ⟨fun ro => ?_, fun e => by cases e⟩⟩⟩
    obtain ⟨c, hc, hm, _⟩ := gv_leaves h1
    obtain ⟨u, us, e1, e2, rfl⟩ := gvs_cons.1 (show gvs s (.nilp :: .agg l :: []) = some vs from hvs)
    obtain ⟨u2, us2, e3, e4, rfl⟩ := gvs_cons.1 e2
    cases e4
    cases e1
    rw [hc s] at e3
    cases e3
    refine CallsIn.mono (show CallsIn (fz ro) 0 Tryz.prog 12 #[_, _] w _ from (callsIn_wide (n := 0)).2 (hm w)) fun e w' hh => ?_
    obtain ⟨rfl, hb⟩ := hh
    exact ⟨_, s, rfl, rfl, below_ev hR hb⟩
  · refine ⟨_, _, h, .inl ⟨_, _, _, rfl, func10_ok, fun s w vs hR hvs => ⟨fun ro => ?_, fun e => by cases e⟩⟩⟩
    have e1 : vs = [] := by
      have : gvs s [] = some vs := hvs
      cases this; rfl
    subst e1
    refine CallsIn.mono (show CallsIn (fz ro) 0 Tryz.prog 10 #[] w _ from (callsIn_wide (n := 0)).2 (works_calls' w)) fun e w' hh => ?_
    obtain ⟨rfl, hb⟩ := hh
    exact ⟨_, s, rfl, rfl, below_ev hR hb⟩
  · exact lev_ok tabOK mixed 60 _ _ _ _ _ h
noncomputable def isTr (v : AV) (_ : Heap) : Bool := onBool v (fun b => b)
theorem okF4 : okF Tryz.prog Tryz.f4 = true := by kernel_rfl
noncomputable def xf4 : XFn := match cF Tryz.prog Tryz.f4 with | some x => x | none => ⟨[], [], .bad⟩
theorem cF4 : cF Tryz.prog Tryz.f4 = some xf4 := by kernel_rfl
def leaves (n0 n1 n2 n4 n5 n6 n7 n8 n11 n12 n13 n14 n15 n17 n18 n21 n22 n23 n24 n26 n28 n29 n30 n31 n32 : Int) (s3 s9 s10 s16 s19 s20 s25 s27 : ByteArray) : List AV := .int .u8 n0 :: .int .u64 n1 :: .int .u64 n2 :: .lit (.string s3) :: .int .u8 n4 :: .int .i64 n5 :: .int .i64 n6 :: .int .i64 n7 :: .int .i64 n8 :: .lit (.string s9) :: .lit (.string s10) :: .int .u8 n11 :: .int .i64 n12 :: .int .i64 n13 :: .int .i64 n14 :: .int .i64 n15 :: .lit (.string s16) :: .int .i64 n17 :: .int .i64 n18 :: .lit (.string s19) :: .lit (.string s20) :: .int .i64 n21 :: .int .i64 n22 :: .int .i64 n23 :: .int .i64 n24 :: .lit (.string s25) :: .int .i64 n26 :: .lit (.string s27) :: .int .i64 n28 :: .int .i64 n29 :: .int .i64 n30 :: .int .u8 n31 :: .int .i64 n32 :: []
theorem none_run (M : List AV → Int) (n0 n1 n2 n4 n5 n6 n7 n8 n11 n12 n13 n14 n15 n17 n18 n21 n22 n23 n24 n26 n28 n29 n30 n31 n32 : Int) (s3 s9 s10 s16 s19 s20 s25 s27 : ByteArray) :
    runFn Tryz.prog xf4 false (orc M) [.agg (leaves n0 n1 n2 n4 n5 n6 n7 n8 n11 n12 n13 n14 n15 n17 n18 n21 n22 n23 n24 n26 n28 n29 n30 n31 n32 s3 s9 s10 s16 s19 s20 s25 s27)] heap0 isTr = @Bool.rec (fun _ => Bool) true true (ltF 1024 (M (leaves n0 n1 n2 n4 n5 n6 n7 n8 n11 n12 n13 n14 n15 n17 n18 n21 n22 n23 n24 n26 n28 n29 n30 n31 n32 s3 s9 s10 s16 s19 s20 s25 s27))) := by kernel_rfl
theorem none_calls (n0 n1 n2 n4 n5 n6 n7 n8 n11 n12 n13 n14 n15 n17 n18 n21 n22 n23 n24 n26 n28 n29 n30 n31 n32 : Int) (s3 s9 s10 s16 s19 s20 s25 s27 : ByteArray) (w : World) : Calls Tryz.prog 4 #[cmd n0 n1 n2 n4 n5 n6 n7 n8 n11 n12 n13 n14 n15 n17 n18 n21 n22 n23 n24 n26 n28 n29 n30 n31 n32 s3 s9 s10 s16 s19 s20 s25 s27] w fun e w' => e = .returned (.bool true) ∧ Below w.heap.size w w' := by
  have hr : runFn Tryz.prog xf4 false (orc MM) [.agg (leaves n0 n1 n2 n4 n5 n6 n7 n8 n11 n12 n13 n14 n15 n17 n18 n21 n22 n23 n24 n26 n28 n29 n30 n31 n32 s3 s9 s10 s16 s19 s20 s25 s27)] heap0 isTr = true := by
    rw [none_run]
    cases ltF 1024 (MM (leaves n0 n1 n2 n4 n5 n6 n7 n8 n11 n12 n13 n14 n15 n17 n18 n21 n22 n23 n24 n26 n28 n29 n30 n31 n32 s3 s9 s10 s16 s19 s20 s25 s27)) <;> rfl
  obtain ⟨res, H', h1, h2⟩ := runFn_ok orc_ok mixed Tryz.func4 cF4 okF4 hr
  have hres : res = .bool true := by
    obtain ⟨b, rfl, hb⟩ := onBool_iff.1 (show onBool res (fun b => b) = true from h1)
    rw [hb]
  subst hres
  have hR : Rel Tryz.prog (fun _ => none) heap0 w := ⟨fun i b e => (by rw [heap0_none] at e; cases e), fun i j L M e => absurd (heap0_none i) e, fun i L e => by cases e⟩
  obtain ⟨v, vs, g1, g2, g3⟩ := gvs_cons.1 (gvs_cmdA n0 n1 n2 n4 n5 n6 n7 n8 n11 n12 n13 n14 n15 n17 n18 n21 n22 n23 n24 n26 n28 n29 n30 n31 n32 s3 s9 s10 s16 s19 s20 s25 s27 (fun _ => none))
  cases g3
  refine (callsIn_wide (n := 0)).1 ((show CallsIn Fence.wide 0 Tryz.prog 4 #[cmd n0 n1 n2 n4 n5 n6 n7 n8 n11 n12 n13 n14 n15 n17 n18 n21 n22 n23 n24 n26 n28 n29 n30 n31 n32 s3 s9 s10 s16 s19 s20 s25 s27] w _ from (h2 _ w _ hR g2).1 none).mono fun e w' hr => ?_)
  obtain ⟨u, s', rfl, e1, hE⟩ := hr
  rw [gvv_bool e1 rfl]
  refine ⟨rfl, hE.fr.os, hE.fr.tape, hE.fr.output, hE.fr.size, fun k hk => hE.fr.block k hk ?_⟩
  rintro ⟨i, L, hi, _⟩
  exact hi (heap0_none i)
end Go.Xe
