/- Operations that look at no memory: arithmetic, comparisons. -/
import Derived.Test.YtphdffebnjekdaaGreatXeO
namespace Go.Xe
open Go
section
variable {P : Program} {o : Oper} {d : Dst} {s : Pl} {ρ : Operand → Value} {r : Regs}
theorem run_eqGuard {op : BinOp} {t : TypeId} {x y : Operand} {a b : Value} (h : ∀ u, a ≠ .agg u) (h' : a ≠ .nilIface) (w : World) : (eqGuard op t x y a b).run P w = .ok () w := by
  cases a with
  | agg u => exact absurd rfl (h u)
  | nilIface => exact absurd rfl h'
  | _ => cases op <;> rfl
theorem bint_sound {op : BinOp} {k : IntKind} {m n : Int} {j : IntKind} {K : AV → Bool} {t : TypeId} (hk : k = j ∨ shiftF (cBF op) = true) (h : bint P (cBF op) k m n K = true) :
    ∃ v u, K v = true ∧ (∀ s, gv s v = some u) ∧ ∀ w, (binOp op t (.int k m) (.int j n)).run P w = .ok u w := by
  have gen : ∀ (z : Sem Value), onSome (pureRun P z) (fun v => K (ofV v)) = true → (∀ w : World, (binOp op t (.int k m) (.int j n)).run P w = z.run P w) →
      ∃ v u, K v = true ∧ (∀ s, gv s v = some u) ∧ ∀ w, (binOp op t (.int k m) (.int j n)).run P w = .ok u w := fun z hz e => by
    obtain ⟨v, hv, h⟩ := onSome_iff.1 hz
    exact ⟨_, v, h, fun s => gv_ofV v, fun w => by rw [e w, pureRun_run hv w]⟩
  have fi : ∀ (z : Int), forceI (wrapF z k) (fun z => K (.int k z)) = true → (∀ w : World, (binOp op t (.int k m) (.int j n)).run P w = .ok (.int k (k.wrap z)) w) →
      ∃ v u, K v = true ∧ (∀ s, gv s v = some u) ∧ ∀ w, (binOp op t (.int k m) (.int j n)).run P w = .ok u w := fun z hz e => by
    rw [forceI_eq, wrapF_eq] at hz
    exact ⟨_, _, hz, fun s => rfl, e⟩
  have bo : ∀ (b : Bool), K (.bool b) = true → (∀ w : World, (binOp op t (.int k m) (.int j n)).run P w = .ok (.bool b) w) →
      ∃ v u, K v = true ∧ (∀ s, gv s v = some u) ∧ ∀ w, (binOp op t (.int k m) (.int j n)).run P w = .ok u w := fun b hz e => ⟨_, _, hz, fun s => rfl, e⟩
  cases op with
  | shl => exact gen _ h fun w => rfl
  | shr => exact gen _ h fun w => rfl
  | add => obtain rfl : k = j := hk.resolve_right (fun e => ft e); refine fi _ h fun w => ?_; rw [addF_eq]; simp [binOp, Op.intArith]
  | sub => obtain rfl : k = j := hk.resolve_right (fun e => ft e); refine fi _ h fun w => ?_; rw [subF_eq]; simp [binOp, Op.intArith]
  | mul => obtain rfl : k = j := hk.resolve_right (fun e => ft e); refine fi _ h fun w => ?_; simp [binOp, Op.intArith]
  | quo => obtain rfl : k = j := hk.resolve_right (fun e => ft e); refine gen (Op.intDiv .quo k m n) h fun w => ?_; simp [binOp]
  | rem => obtain rfl : k = j := hk.resolve_right (fun e => ft e); refine gen (Op.intDiv .rem k m n) h fun w => ?_; simp [binOp]
  | and => obtain rfl : k = j := hk.resolve_right (fun e => ft e); refine gen (Op.intBits .and k m n) h fun w => ?_; simp [binOp]
  | or => obtain rfl : k = j := hk.resolve_right (fun e => ft e); refine gen (Op.intBits .or k m n) h fun w => ?_; simp [binOp]
  | xor => obtain rfl : k = j := hk.resolve_right (fun e => ft e); refine gen (Op.intBits .xor k m n) h fun w => ?_; simp [binOp]
  | andNot => obtain rfl : k = j := hk.resolve_right (fun e => ft e); refine gen (Op.intBits .andNot k m n) h fun w => ?_; simp [binOp]
  | eql => obtain rfl : k = j := hk.resolve_right (fun e => ft e); refine bo _ h fun w => ?_; simp [binOp, Op.intCmp, eqF_eq]
  | neq => obtain rfl : k = j := hk.resolve_right (fun e => ft e); refine bo _ h fun w => ?_; simp [binOp, Op.intCmp, eqF_eq, notF_eq, bne]
  | lss => obtain rfl : k = j := hk.resolve_right (fun e => ft e); refine bo _ h fun w => ?_; simp [binOp, Op.intCmp, ltF_eq]
  | leq => obtain rfl : k = j := hk.resolve_right (fun e => ft e); refine bo _ h fun w => ?_; rw [notF_eq, ltF_eq, ← decide_not]; simp only [binOp, ne_eq, not_true_eq_false, if_false, Op.intCmp, Sem.run_pure]; congr 3; exact propext Int.not_lt.symm
  | gtr => obtain rfl : k = j := hk.resolve_right (fun e => ft e); refine bo _ h fun w => ?_; simp [binOp, Op.intCmp, ltF_eq]
  | geq => obtain rfl : k = j := hk.resolve_right (fun e => ft e); refine bo _ h fun w => ?_; rw [notF_eq, ltF_eq, ← decide_not]; simp only [binOp, ne_eq, not_true_eq_false, if_false, Op.intCmp, Sem.run_pure]; congr 3; exact propext Int.not_lt.symm
def bsL (s : List Nat) : List UInt8 := s.map UInt8.ofNat
theorem u8_inj {a b : Nat} (ha : a < 256) (hb : b < 256) (h : UInt8.ofNat a = UInt8.ofNat b) : a = b := by
  have := congrArg UInt8.toNat h
  simpa [UInt8.toNat_ofNat', Nat.mod_eq_of_lt ha, Nat.mod_eq_of_lt hb] using this
theorem bsL_inj : ∀ {s t : List Nat}, s.all (Nat.blt · 256) = true → t.all (Nat.blt · 256) = true → bsL s = bsL t → s = t
  | [], [], _, _, _ => rfl
  | [], _ :: _, _, _, h => by simp [bsL] at h
  | _ :: _, [], _, _, h => by simp [bsL] at h
  | a :: s, b :: t, hs, ht, h => by
    simp only [List.all_cons, Bool.and_eq_true, Nat.blt_eq] at hs ht
    simp only [bsL, List.map_cons, List.cons.injEq] at h
    rw [u8_inj hs.1 ht.1 h.1, bsL_inj hs.2 ht.2 h.2]
theorem eqS_bytes {s t : List Nat} (hs : s.all (Nat.blt · 256) = true) (ht : t.all (Nat.blt · 256) = true) : eqS s t = (bsL s == bsL t) := by
  rw [Bool.eq_iff_iff, eqS_iff, beq_iff_eq]
  exact ⟨fun h => by rw [h], bsL_inj hs ht⟩
theorem ltS_bytes : ∀ {s t : List Nat}, s.all (Nat.blt · 256) = true → t.all (Nat.blt · 256) = true → ltS s t = Op.bytesLess (bsL s) (bsL t)
  | [], [], _, _ => rfl
  | _ :: _, [], _, _ => rfl
  | [], _ :: _, _, _ => rfl
  | a :: s, b :: t, hs, ht => by
    simp only [List.all_cons, Bool.and_eq_true, Nat.blt_eq] at hs ht
    have ih := ltS_bytes hs.2 ht.2
    show @Bool.rec (fun _ => Bool) (@Bool.rec (fun _ => Bool) false (ltS s t) (Nat.beq a b)) true (Nat.blt a b) = (decide (UInt8.ofNat a < UInt8.ofNat b) || (UInt8.ofNat a == UInt8.ofNat b && Op.bytesLess (bsL s) (bsL t)))
    have h1 : decide (UInt8.ofNat a < UInt8.ofNat b) = Nat.blt a b := by
      rw [Bool.eq_iff_iff, decide_eq_true_eq, Nat.blt_eq, UInt8.lt_iff_toNat_lt]
      simp [UInt8.toNat_ofNat', Nat.mod_eq_of_lt hs.1, Nat.mod_eq_of_lt ht.1]
    have h2 : (UInt8.ofNat a == UInt8.ofNat b) = Nat.beq a b := by
      rw [Bool.eq_iff_iff, beq_iff_eq, Nat.beq_eq]
      exact ⟨u8_inj hs.1 ht.1, fun h => by rw [h]⟩
    rw [h1, h2, ih]
    cases Nat.blt a b <;> cases Nat.beq a b <;> rfl
theorem strV_toList (s : List Nat) : (ByteArray.mk (s.map UInt8.ofNat).toArray).toList = bsL s := by rw [ByteArray.toList_eq]; rfl
theorem bstr_sound {op : BinOp} {x y : List Nat} {K : AV → Bool} {t : TypeId} (hs : x.all (Nat.blt · 256) = true) (ht : y.all (Nat.blt · 256) = true) (h : bstr (cBF op) x y K = true) :
    ∃ v u, K v = true ∧ (∀ s, gv s v = some u) ∧ ∀ w, (binOp op t (strV x) (strV y)).run P w = .ok u w := by
  have bo : ∀ (b : Bool), K (.bool b) = true → (∀ w : World, (binOp op t (strV x) (strV y)).run P w = .ok (.bool b) w) →
      ∃ v u, K v = true ∧ (∀ s, gv s v = some u) ∧ ∀ w, (binOp op t (strV x) (strV y)).run P w = .ok u w := fun b hz e => ⟨_, _, hz, fun s => rfl, e⟩
  have e1 := eqS_bytes hs ht
  have e2 := ltS_bytes hs ht
  cases op with
  | add =>
    obtain ⟨h1, h⟩ := chk_iff.1 (show chk (Nat.blt (lenF (app x y)) 4611686018427387904) (K (.str (app x y))) = true from h)
    rw [Nat.blt_eq, lenF_eq, app_eq] at h1
    rw [app_eq] at h
    refine ⟨_, strV (x ++ y), h, fun s => ?_, fun w => ?_⟩
    · simp only [gv]; rw [if_pos (by rw [List.all_append, hs, ht]; rfl)]
    · simp only [binOp, strV, Op.stringOp]
      have hz : ¬ (((ByteArray.mk (List.map UInt8.ofNat x).toArray).size + (ByteArray.mk (List.map UInt8.ofNat y).toArray).size : Nat) : Int) > IntKind.i64.max := by
        have a1 : (ByteArray.mk (List.map UInt8.ofNat x).toArray).size = x.length := by simp [ByteArray.size]
        have a2 : (ByteArray.mk (List.map UInt8.ofNat y).toArray).size = y.length := by simp [ByteArray.size]
        rw [a1, a2]
        rw [List.length_append] at h1
        simp only [IntKind.max, IntKind.signed, IntKind.bits, if_true]; omega
      rw [if_neg hz]
      simp only [Sem.run_pure]
      congr 2
      apply ByteArray.ext
      simp
  | eql => exact bo _ h fun w => by simp only [binOp, strV, Op.stringOp, strV_toList, e1, Sem.run_pure]
  | neq => exact bo _ h fun w => by simp only [binOp, strV, Op.stringOp, strV_toList, e1, notF_eq, Sem.run_pure]
  | lss => exact bo _ h fun w => by simp only [binOp, strV, Op.stringOp, strV_toList, e2, Sem.run_pure]
  | leq => exact bo _ h fun w => by simp only [binOp, strV, Op.stringOp, strV_toList, e1, e2, orF_eq, Sem.run_pure]
  | gtr => exact bo _ h fun w => by simp only [binOp, strV, Op.stringOp, strV_toList, e1, e2, orF_eq, notF_eq, Sem.run_pure]
  | geq => exact bo _ h fun w => by simp only [binOp, strV, Op.stringOp, strV_toList, e2, notF_eq, Sem.run_pure]
  | _ => exact ft h
theorem pure_bin {op : BinOp} {t t' : TypeId} {x y : Operand} (ho : o.op = .binOp op t x y t') : Pure0 P o d (.bin (cBF op) d (cO x) (cO y)) := fun cl ih r D H h => by
  have h : binV P (cBF op) (ov (cO x) r) (ov (cO y) r) (fun v => ih (put d v r) D H) = true := h
  have key : ∃ v, ih (put d v r) D H = true ∧ ∀ s ρ, OpR s r ρ o → ∃ u, gv s v = some u ∧ (∀ w, (binOp op t (ρ x) (ρ y)).run P w = .ok u w) ∧ (∀ u, ρ x ≠ .agg u) ∧ ρ x ≠ .nilIface := by
    cases hx : ov (cO x) r with
    | int k m =>
      rw [hx] at h
      have h : onInt (ov (cO y) r) (fun j n => binII P (cBF op) k m j n (fun v => ih (put d v r) D H)) = true := h
      obtain ⟨j, n, hy, h⟩ := onInt_iff.1 h
      obtain ⟨hk, h⟩ := chk_iff.1 (show chk (orF (eqK k j) (shiftF (cBF op))) (bint P (cBF op) k m n (fun v => ih (put d v r) D H)) = true from h)
      rw [orF_eq, Bool.or_eq_true, eqK_iff] at hk
      obtain ⟨v, u, h1, h2, h3⟩ := bint_sound (t := t) hk h
      refine ⟨v, h1, fun s ρ hr => ⟨u, h2 s, ?_⟩⟩
      rw [gvv_int (hr x (by rw [ho]; simp [Op.operands])) hx, gvv_int (hr y (by rw [ho]; simp [Op.operands])) hy]
      exact ⟨h3, fun _ => by simp, by simp⟩
    | str a =>
      rw [hx] at h
      have h : onStr (ov (cO y) r) (fun b => bstr (cBF op) a b (fun v => ih (put d v r) D H)) = true := h
      obtain ⟨b, hy, h⟩ := onStr_iff.1 h
      by_cases hs : a.all (Nat.blt · 256) = true ∧ b.all (Nat.blt · 256) = true
      · obtain ⟨v, u, h1, h2, h3⟩ := bstr_sound (P := P) (t := t) hs.1 hs.2 h
        refine ⟨v, h1, fun s ρ hr => ⟨u, h2 s, ?_⟩⟩
        rw [(gvv_str (hr x (by rw [ho]; simp [Op.operands])) hx).2, (gvv_str (hr y (by rw [ho]; simp [Op.operands])) hy).2]
        exact ⟨h3, fun _ => by simp [strV], by simp [strV]⟩
      · have any : ∃ v, ih (put d v r) D H = true := by
          cases op <;> first
            | exact ⟨_, h⟩
            | exact ⟨_, (chk_iff.1 (show chk _ _ = true from h)).2⟩
            | exact ft h
        obtain ⟨v, hv⟩ := any
        refine ⟨v, hv, fun s ρ hr => ?_⟩
        exact absurd ⟨(gvv_str (hr x (by rw [ho]; simp [Op.operands])) hx).1, (gvv_str (hr y (by rw [ho]; simp [Op.operands])) hy).1⟩ hs
    | _ => rw [hx] at h; exact ft h
  obtain ⟨v, h1, h2⟩ := key
  refine ⟨v, h1, fun s ρ hr => ?_⟩
  obtain ⟨u, h3, h4, h5, h6⟩ := h2 s ρ hr
  refine ⟨u, h3, fun w => ?_⟩
  simp only [execOp, ho, Sem.run_bind, run_eqGuard h5 h6, Result.andThen_ok, h4 w, Sem.run_pure]
/-! Pointers, nil. -/
theorem isNilp_sound {a : AV} {K : Bool → Bool} (h : isNilp a K = true) : ∃ b, K b = true ∧ ∀ {s : Pl} {v : Value}, gv s a = some v → (b = true ∧ v = .pointer none) ∨ (b = false ∧ ∃ x, v = .pointer (some x)) := by
  cases a with
  | nilp => exact ⟨true, h, fun e => .inl ⟨rfl, gvv_nilp e rfl⟩⟩
  | ptr i off => exact ⟨false, h, fun e => .inr ⟨rfl, let ⟨_, _, e⟩ := gvv_ptr e rfl; ⟨_, e⟩⟩⟩
  | _ => exact ft h
theorem boolRec_neg (neg b : Bool) : (@Bool.rec (fun _ => Bool) b (notF b) neg) = (neg != b) := by cases neg <;> cases b <;> rfl
theorem peqV_sound {a b : AV} {K : Bool → Bool} {t e : TypeId} {n : Nat} (hu : P.underlying t = some (.pointer e)) (hn : sz P e = some (n + 1)) (h : peqV a b K = true) :
    ∃ c, K c = true ∧ ∀ (s : Pl) (v u : Value), gv s a = some v → gv s b = some u → (∃ x, v = .pointer x) ∧ ∀ w, (Op.equal t v u).run P w = .ok c w := by
  have er : ∀ (x y : Option Addr) (w : World), (Op.equal t (.pointer x) (.pointer y)).run P w = (match x, y with
      | none, b => Result.ok b.isNone w
      | _, none => .ok false w
      | some a, some b => (do if (← sizeOf e) ≠ 0 then sameAddr a b else if a == b then pure true else pure ((← choose .zeroSizeEq) = 1) : Sem Bool).run P w) := fun x y w => by
    have e0 : ∀ x y, Op.equal t x y = Op.equalIn (9999 + 1) t x y := fun _ _ => rfl
    rw [e0, Op.equalIn]
    cases x <;> cases y <;> simp only [Sem.run_bind, run_underlying hu, Result.andThen_ok] <;> rfl
  cases a with
  | nilp =>
    obtain ⟨c, h1, h2⟩ := isNilp_sound (show isNilp b K = true from h)
    refine ⟨c, h1, fun s v u hv hu' => ?_⟩
    obtain rfl := gvv_nilp hv rfl
    refine ⟨⟨_, rfl⟩, fun w => ?_⟩
    rcases h2 hu' with ⟨rfl, rfl⟩ | ⟨rfl, x, rfl⟩ <;> rw [er] <;> rfl
  | ptr i off =>
    have h : peqP b i off K = true := h
    cases b with
    | nilp =>
      refine ⟨false, h, fun s v u hv hu' => ?_⟩
      obtain ⟨L, _, rfl⟩ := gvv_ptr hv rfl
      obtain rfl := gvv_nilp hu' rfl
      exact ⟨⟨_, rfl⟩, fun w => by rw [er]⟩
    | ptr j o' =>
      obtain ⟨h1, h2⟩ := chk_iff.1 (show chk (eqId i j) (K (Nat.beq off o')) = true from h)
      rw [eqId_iff] at h1; subst h1
      refine ⟨_, h2, fun s v u hv hu' => ?_⟩
      obtain ⟨L, e1, rfl⟩ := gvv_ptr hv rfl
      obtain ⟨M, e2, rfl⟩ := gvv_ptr hu' rfl
      rw [e1] at e2; cases e2
      refine ⟨⟨_, rfl⟩, fun w => ?_⟩
      rw [er]
      simp only [Sem.run_bind, run_sizeOf hn, Result.andThen_ok]
      simp only [ne_eq, Nat.add_one_ne_zero, not_false_eq_true, if_true, sameAddr, beq_self_eq_true]
      simp only [Sem.run_pure]
      congr 1
      rw [Bool.eq_iff_iff, Nat.beq_eq, beq_iff_eq]
      simp
    | _ => exact ft h
  | _ => exact ft h
theorem pure_peq {op : BinOp} {t t' e : TypeId} {n : Nat} {x y : Operand} (ho : o.op = .binOp op t x y t') (hop : isEq op = true) (hu : P.underlying t = some (.pointer e)) (hn : sz P e = some (n + 1)) :
    Pure0 P o d (.peq (isNeq op) d (cO x) (cO y)) := fun cl ih r D H h => by
  have h : peqV (ov (cO x) r) (ov (cO y) r) (fun b => ih (put d (.bool (@Bool.rec (fun _ => Bool) b (notF b) (isNeq op))) r) D H) = true := h
  obtain ⟨c, h1, h2⟩ := peqV_sound hu hn h
  rw [boolRec_neg] at h1
  refine ⟨_, h1, fun s ρ hr => ⟨.bool (isNeq op != c), rfl, fun w => ?_⟩⟩
  obtain ⟨⟨p, hp⟩, h3⟩ := h2 s _ _ (hr x (by rw [ho]; simp [Op.operands])) (hr y (by rw [ho]; simp [Op.operands]))
  have h3 := h3 w
  have h4 : (eqGuard op t x y (ρ x) (ρ y)).run P w = .ok () w := run_eqGuard (fun u => by rw [hp]; simp) (by rw [hp]; simp) w
  rw [hp] at h3 h4
  cases op <;> first
    | (exact ft hop)
    | (simp only [execOp, ho, hp, Sem.run_bind, h4, Result.andThen_ok, binOp]
       simp only [h3, Result.andThen_ok, Sem.run_pure, isNeq, Bool.false_bne, Bool.true_bne])
def NilK : Nat → Bool → Value → Prop
  | 0, true, v => v = .slice none 0 0
  | 0, false, v => ∃ x n c, v = .slice (some x) n c
  | 1, true, v => v = .nilFunc
  | 1, false, v => ∃ f x y, v = .func f x y
  | 2, true, v => v = .map none
  | 2, false, v => ∃ x, v = .map (some x)
  | _, _, _ => False
theorem nilOf_sound {a : AV} {tk : Nat} {K : Bool → Bool} (h : nilOf a tk K = true) : ∃ b, K b = true ∧ ∀ {s : Pl} {v : Value}, gv s a = some v → NilK tk b v := by
  cases a with
  | nils => obtain ⟨h1, h⟩ := chk_iff.1 (show chk (Nat.beq tk 0) (K true) = true from h); rw [Nat.beq_eq] at h1; subst h1; exact ⟨true, h, fun e => gvv_nils e rfl⟩
  | slice i off len ex cap => obtain ⟨h1, h⟩ := chk_iff.1 (show chk (Nat.beq tk 0) (K false) = true from h); rw [Nat.beq_eq] at h1; subst h1; exact ⟨false, h, fun e => let ⟨_, _, _, e, _⟩ := gvv_slice e rfl; ⟨_, _, _, e⟩⟩
  | map i => obtain ⟨h1, h⟩ := chk_iff.1 (show chk (Nat.beq tk 2) (K false) = true from h); rw [Nat.beq_eq] at h1; subst h1; exact ⟨false, h, fun e => let ⟨_, _, e⟩ := gvv_map e rfl; ⟨_, e⟩⟩
  | func f x y => obtain ⟨h1, h⟩ := chk_iff.1 (show chk (Nat.beq tk 1) (K false) = true from h); rw [Nat.beq_eq] at h1; subst h1; exact ⟨false, h, fun e => let ⟨_, _, _, _, e⟩ := gvv_func e rfl; ⟨_, _, _, e⟩⟩
  | yield l => obtain ⟨h1, h⟩ := chk_iff.1 (show chk (Nat.beq tk 1) (K false) = true from h); rw [Nat.beq_eq] at h1; subst h1; exact ⟨false, h, fun e => by simp only [gv, Option.map_eq_some_iff] at e; obtain ⟨L, _, e⟩ := e; exact ⟨_, _, _, e.symm⟩⟩
  | lit v =>
    obtain ⟨h1, h⟩ := chk_iff.1 (show chk (litNil tk v) (K true) = true from h)
    refine ⟨true, h, fun e => ?_⟩
    simp only [gv, Option.some.injEq] at e; subst e
    cases v with
    | nilFunc => have h1 : Nat.beq tk 1 = true := h1; rw [Nat.beq_eq] at h1; subst h1; rfl
    | map m => cases m with
      | none => have h1 : Nat.beq tk 2 = true := h1; rw [Nat.beq_eq] at h1; subst h1; rfl
      | some _ => exact ft h1
    | _ => exact ft h1
  | _ => exact ft h
def nilT : Nat → TypeDesc → Bool
  | 0, .slice _ => true
  | 1, .func .. => true
  | 2, .map .. => true
  | _, _ => false
theorem nil_equal {t : TypeId} {u : TypeDesc} {tk : Nat} (hu : P.underlying t = some u) (hT : nilT tk u = true) {a b : Bool} {v y : Value} (hv : NilK tk a v) (hy : NilK tk b y) (hab : (a || b) = true) (w : World) :
    (Op.equal t v y).run P w = .ok (a && b) w := by
  have e0 : ∀ x y, Op.equal t x y = Op.equalIn (9999 + 1) t x y := fun _ _ => rfl
  match tk, hT, hv, hy with
  | 0, hT, hv, hy =>
    cases u <;> first
      | exact ft hT
      | (cases a <;> cases b <;> first
          | exact ft hab
          | (simp only [NilK] at hv hy
             first
              | (subst hv; subst hy)
              | (obtain ⟨_, _, _, rfl⟩ := hv; subst hy)
              | (subst hv; obtain ⟨_, _, _, rfl⟩ := hy)
             rw [e0, Op.equalIn]; simp only [Sem.run_bind, run_underlying hu, Result.andThen_ok]; rfl))
  | 1, hT, hv, hy =>
    cases u <;> first
      | exact ft hT
      | (cases a <;> cases b <;> first
          | exact ft hab
          | (simp only [NilK] at hv hy
             first
              | (subst hv; subst hy)
              | (obtain ⟨_, _, _, rfl⟩ := hv; subst hy)
              | (subst hv; obtain ⟨_, _, _, rfl⟩ := hy)
             rw [e0, Op.equalIn]; simp only [Sem.run_bind, run_underlying hu, Result.andThen_ok]; rfl))
  | 2, hT, hv, hy =>
    cases u <;> first
      | exact ft hT
      | (cases a <;> cases b <;> first
          | exact ft hab
          | (simp only [NilK] at hv hy
             first
              | (subst hv; subst hy)
              | (obtain ⟨_, rfl⟩ := hv; subst hy)
              | (subst hv; obtain ⟨_, rfl⟩ := hy)
             rw [e0, Op.equalIn]; simp only [Sem.run_bind, run_underlying hu, Result.andThen_ok]; rfl))
  | n + 3, _, hv, _ => exact absurd hv (by simp [NilK])
theorem NilK.plain {tk : Nat} {b : Bool} {v : Value} (h : NilK tk b v) : (∀ u, v ≠ .agg u) ∧ v ≠ .nilIface ∧ (∀ k n, v ≠ .int k n) ∧ (∀ k n, v ≠ .float k n) ∧ (∀ k m n, v ≠ .complex k m n) ∧ (∀ s, v ≠ .string s) := by
  match tk, b, h with
  | 0, true, h => simp only [NilK] at h; subst h; simp
  | 0, false, h => obtain ⟨_, _, _, rfl⟩ := h; simp
  | 1, true, h => simp only [NilK] at h; subst h; simp
  | 1, false, h => obtain ⟨_, _, _, rfl⟩ := h; simp
  | 2, true, h => simp only [NilK] at h; subst h; simp
  | 2, false, h => obtain ⟨_, rfl⟩ := h; simp
theorem binOp_eql {t : TypeId} {x y : Value} (h1 : ∀ k n, x ≠ .int k n) (h2 : ∀ k n, x ≠ .float k n) (h3 : ∀ k m n, x ≠ .complex k m n) (h4 : ∀ s, x ≠ .string s) :
    binOp .eql t x y = (do pure (.bool (← Op.equal t x y))) ∧ binOp .neq t x y = (do pure (.bool (!(← Op.equal t x y)))) := by
  cases x with
  | int k n => exact absurd rfl (h1 k n)
  | float k n => exact absurd rfl (h2 k n)
  | complex k m n => exact absurd rfl (h3 k m n)
  | string s => exact absurd rfl (h4 s)
  | _ => exact ⟨rfl, rfl⟩
theorem pure_neq0 {op : BinOp} {t t' : TypeId} {u : TypeDesc} {tk : Nat} {x y : Operand} (ho : o.op = .binOp op t x y t') (hop : isEq op = true) (hu : P.underlying t = some u) (hT : nilT tk u = true) :
    Pure0 P o d (.neq0 tk (isNeq op) d (cO x) (cO y)) := fun cl ih r D H h => by
  have h : nilOf (ov (cO x) r) tk (fun b => nilOf (ov (cO y) r) tk (fun c => chk (orF b c) (ih (put d (.bool (@Bool.rec (fun _ => Bool) (andF b c) (notF (andF b c)) (isNeq op))) r) D H))) = true := h
  obtain ⟨a, h, ha⟩ := nilOf_sound h
  obtain ⟨b, h, hb⟩ := nilOf_sound h
  obtain ⟨hab, h⟩ := chk_iff.1 h
  rw [boolRec_neg, andF_eq] at h
  rw [orF_eq] at hab
  refine ⟨_, h, fun s ρ hr => ⟨.bool (isNeq op != (a && b)), rfl, fun w => ?_⟩⟩
  have hx := ha (hr x (by rw [ho]; simp [Op.operands]))
  have hy := hb (hr y (by rw [ho]; simp [Op.operands]))
  obtain ⟨p1, p2, p3, p4, p5, p6⟩ := hx.plain
  have h3 := nil_equal hu hT hx hy hab w
  have h4 := run_eqGuard (P := P) (op := op) (t := t) (x := x) (y := y) (b := ρ y) p1 p2 w
  obtain ⟨e1, e2⟩ := binOp_eql (t := t) (y := ρ y) p3 p4 p5 p6
  cases op <;> first
    | (exact ft hop)
    | (simp only [execOp, ho, Sem.run_bind, h4, Result.andThen_ok, e1, e2, h3, Sem.run_pure, isNeq, Bool.false_bne, Bool.true_bne])
end
end Go.Xe
