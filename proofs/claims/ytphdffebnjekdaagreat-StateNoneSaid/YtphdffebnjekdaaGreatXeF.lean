/- A region that draws its order: the executor's one walk, as a row of steps. -/
import Derived.Test.YtphdffebnjekdaaGreatXeE
namespace Go.Xe
open Go
section
variable {P : Program} {cl : CallT} {o : Oper} {r : Regs} {n : Nat} {ops : Array Oper}
mutual
theorem beqA_eq : ∀ {a b : AV}, beqA a b = true → a = b
  | .int .., b, h => by
    cases b with
    | int => simp only [beqA, Bool.and_eq_true, eqK_iff, eqF_eq, beq_iff_eq] at h; rw [h.1, h.2]
    | _ => exact ft h
  | .bool _, b, h => by
    cases b with
    | bool => simp only [beqA, beq_iff_eq] at h; rw [h]
    | _ => exact ft h
  | .str _, b, h => by
    cases b with
    | str => simp only [beqA, eqS_iff] at h; rw [h]
    | _ => exact ft h
  | .ptr .., b, h => by
    cases b with
    | ptr => simp only [beqA, Bool.and_eq_true, eqId_iff, Nat.beq_eq] at h; rw [h.1, h.2]
    | _ => exact ft h
  | .slice .., b, h => by
    cases b with
    | slice => simp only [beqA, Bool.and_eq_true, eqId_iff, Nat.beq_eq] at h; obtain ⟨⟨⟨⟨rfl, rfl⟩, rfl⟩, rfl⟩, rfl⟩ := h; rfl
    | _ => exact ft h
  | .map _, b, h => by
    cases b with
    | map => simp only [beqA, eqId_iff] at h; rw [h]
    | _ => exact ft h
  | .nilp, b, h => by
    cases b with
    | nilp => rfl
    | _ => exact ft h
  | .nils, b, h => by
    cases b with
    | nils => rfl
    | _ => exact ft h
  | .agg _, b, h => by
    cases b with
    | agg m => exact congrArg AV.agg (beqL_eq h)
    | _ => exact ft h
  | .func .., b, h => by cases b <;> exact ft h
  | .yield _, b, h => by cases b <;> exact ft h
  | .tuple _, b, h => by cases b <;> exact ft h
  | .lit _, b, h => by cases b <;> exact ft h
theorem beqL_eq : ∀ {l m : List AV}, beqL l m = true → l = m
  | [], [], _ => rfl
  | _ :: _, _ :: _, h => by simp only [beqL, Bool.and_eq_true] at h; rw [beqA_eq h.1, beqL_eq h.2]
  | [], _ :: _, h => ft h
  | _ :: _, [], h => ft h
end
structure St where
  hs : List Heap
  r : Regs
  D : Dfr
  H : Heap
def PureV (P : Program) (o : Oper) (r : Regs) (v : AV) : Prop := ∀ s ρ, OpR s r ρ o → ∃ u, gv s v = some u ∧ ∀ w, (execOp ρ o).run P w = .ok (.value u) w
def AllocV (P : Program) (o : Oper) (r : Regs) (blk : Blk) (mk : Id → AV) : Prop :=
  ∀ (s : Pl) ρ, OpR s r ρ o → ∀ w : World, ∃ obj w' u L, (execOp ρ o).run P w = .ok (.value u) w' ∧ w'.heap = w.heap.push obj ∧ w'.os = w.os ∧ w'.tape = w.tape ∧ w'.output = w.output ∧ L.b = w.heap.size ∧
    BlkRel P s L blk (some obj) ∧ ∀ (s' : Pl) i, s' i = some L → gv s' (mk i) = some u
def LoadV (P : Program) (o : Oper) (r : Regs) (H : Heap) (v : AV) : Prop := ∀ (s s2 : Pl) (w : World) ρ, Rel P s H w → s.le s2 → OpR s2 r ρ o → ∃ u, gv s v = some u ∧ (execOp ρ o).run P w = .ok (.value u) w
def FullV (P : Program) (o : Oper) (S S' : St) (v : AV) : Prop :=
  ∀ ro (s : Pl) (w : World) (a : Act) Q, Rel P s S.H w → OpR s S.r a.eval o → DRel s ro S.D a.defers →
    o.wpIn (fz ro) 0 P a w (fun a' w' => ∃ u s' ds, a' = ({ a with defers := ds } : Act).put o.dst u ∧ gv s' v = some u ∧ Ev P s S.H w s' S'.H w' ∧ DRel s' ro S'.D ds) Q
/-- A new block, and no more. -/
def Grow (H H' : Heap) (blk : Blk) : Prop := H'.nx.toNat = H.nx.toNat + 1 ∧ ∀ j, hget H' j = if j = H.nx then some blk else hget H j
def xo (P : Program) (o : Oper) : XO := cOp P o (cD o.dst)
inductive Kind (P : Program) (ops : Array Oper) (o : Oper) (ws : Nat) (S : St) (v : AV) (S' : St) : Prop
  | skip (hw : WantIs ops o S.r false) (hv : v = .tuple []) (hD : S'.D = S.D) (hH : S'.H = S.H)
  | pure (hw : WantIs ops o S.r true) (hk : kd (xo P o) = .p) (hd : ∀ c, o.op ≠ .defer c) (hv : PureV P o S.r v) (hD : S'.D = S.D) (hH : S'.H = S.H)
  | alloc (hw : WantIs ops o S.r true) (hk : kd (xo P o) = .p) (hd : ∀ c, o.op ≠ .defer c) (blk : Blk) (mk : Id → AV) (hv : AllocV P o S.r blk mk) (he : v = mk S.H.nx) (hD : S'.D = S.D) (hH : Grow S.H S'.H blk)
  | load (hw : WantIs ops o S.r true) (hk : kd (xo P o) = .l) (hd : ∀ c, o.op ≠ .defer c) (hv : ∀ j, j ≤ ws → ∃ h, S.hs[j]? = some h ∧ LoadV P o S.r h v) (hD : S'.D = S.D) (hH : S'.H = S.H)
  | full (hw : WantIs ops o S.r true) (hk : kd (xo P o) = .c) (hv : FullV P o S S' v)
structure StepOK (P : Program) (ops : Array Oper) (o : Oper) (ws : Nat) (S : St) (v : AV) (S' : St) : Prop where
  regs : S'.r = put (cD o.dst) v S.r
  hs : S'.hs = if isC (xo P o) = true then S'.H :: S.hs else S.hs
  nx : S.H.nx.toNat ≤ S'.H.nx.toNat
  kind : Kind P ops o ws S v S'
theorem older_sound {p : Opnd × Option Nat} {v : AV} (hp : LoadR P o p.1 p.2) : ∀ (ws : Nat) (hs : List Heap) {k : Bool}, older ws hs (ldAt p.1 p.2 r) v k = true → k = true ∧ ∀ j, j < ws → ∃ h, hs[j]? = some h ∧ LoadV P o r h v
  | 0, _, _, h => ⟨h, fun j hj => by omega⟩
  | ws + 1, [], _, h => ft h
  | ws + 1, x :: t, k, h => by
    have h : ldAt p.1 p.2 r x (fun u => chk (beqA u v) (older ws t (ldAt p.1 p.2 r) v k)) = true := h
    obtain ⟨u, h1, h2⟩ := hp r x _ h
    obtain ⟨h3, h4⟩ := chk_iff.1 h1
    have h3 := beqA_eq h3
    subst h3
    obtain ⟨h5, h6⟩ := older_sound hp ws t h4
    refine ⟨h5, fun j hj => ?_⟩
    cases j with
    | zero => exact ⟨x, rfl, h2⟩
    | succ j => exact h6 j (by omega)
theorem kd_isC {x : XO} : isC x = true ↔ kd x = .c := by
  unfold isC
  cases kd x <;> simp
/-- One step. -/
theorem step_ok (hcl : CallOK P cl) (hk : okXG n ops o = true) {ws : Nat} {S : St} {KK : List Heap → KO}
    (h : gd (cGd ops o) S.r (clsK P (clsOf (kd (xo P o)) ws) { cXG P ops o .p with c := clsOf (kd (xo P o)) ws } cl KK S.hs S.r S.D S.H)
      (skK (clsOf (kd (xo P o)) ws) S.H S.hs (fun hs => KK hs (put (cD o.dst) (.tuple []) S.r) S.D S.H)) = true) :
    ∃ v S', KK S'.hs S'.r S'.D S'.H = true ∧ StepOK P ops o ws S v S' := by
  have good := cOp_good (P := P) o (cD o.dst)
  rcases gd_inv hk h with ⟨hw, h⟩ | ⟨hw, h⟩
  · cases hkd : kd (xo P o) with
    | p =>
      rw [hkd] at h
      have h : step P (xo P o) cl (KK S.hs) S.r S.D S.H = true := h
      have hc : isC (xo P o) ≠ true := fun e => by rw [kd_isC.1 e] at hkd; cases hkd
      obtain ⟨hd, hp | ha⟩ := good.2.1 hkd
      · obtain ⟨v, h1, h2⟩ := hp cl _ _ _ _ h
        exact ⟨v, ⟨S.hs, put (cD o.dst) v S.r, S.D, S.H⟩, h1, rfl, (if_neg hc).symm, Nat.le_refl _, .pure hw hkd hd h2 rfl rfl⟩
      · obtain ⟨blk, mk, h1, h2⟩ := ha cl _ _ _ _ h
        obtain ⟨H', h3, h4, h5⟩ := alloc_iff h1
        exact ⟨mk S.H.nx, ⟨S.hs, put (cD o.dst) (mk S.H.nx) S.r, S.D, H'⟩, h5, rfl, (if_neg hc).symm, by show _ ≤ H'.nx.toNat; omega, .alloc hw hkd hd blk mk h2 rfl rfl ⟨h3, h4⟩⟩
    | l =>
      rw [hkd] at h
      have hc : isC (xo P o) ≠ true := fun e => by rw [kd_isC.1 e] at hkd; cases hkd
      obtain ⟨y, m, hx, hl, hd⟩ := good.2.2 hkd
      have h : onSome (ldX (xo P o)) (fun p => onHd S.hs (fun h t => ldAt p.1 p.2 S.r h (fun v => older ws t (ldAt p.1 p.2 S.r) v (KK S.hs (put (cD o.dst) v S.r) S.D S.H)))) = true := h
      obtain ⟨p, e, h⟩ := onSome_iff.1 h
      rw [show ldX (xo P o) = some (y, m) from hx] at e
      cases e
      cases hhs : S.hs with
      | nil => rw [hhs] at h; exact ft h
      | cons x t =>
        have h : ldAt y m S.r x (fun v => older ws t (ldAt y m S.r) v (KK S.hs (put (cD o.dst) v S.r) S.D S.H)) = true := by
          rw [hhs] at h ⊢; exact h
        obtain ⟨v, h1, h2⟩ := hl _ _ _ h
        obtain ⟨h3, h4⟩ := older_sound (p := (y, m)) hl ws t h1
        refine ⟨v, ⟨S.hs, put (cD o.dst) v S.r, S.D, S.H⟩, h3, rfl, (if_neg hc).symm, Nat.le_refl _, .load hw hkd hd (fun j hj => ?_) rfl rfl⟩
        rw [hhs]
        cases j with
        | zero => exact ⟨x, rfl, h2⟩
        | succ j => exact h4 j (by omega)
    | c =>
      rw [hkd] at h
      have h : step P (xo P o) cl (fun r D X => chk (leId S.H.nx X.nx) (KK (X :: S.hs) r D X)) S.r S.D S.H = true := h
      obtain ⟨v, D', H', h1, h2⟩ := good.1 cl hcl _ _ _ _ h
      obtain ⟨h3, h4⟩ := chk_iff.1 h1
      exact ⟨v, ⟨H' :: S.hs, put (cD o.dst) v S.r, D', H'⟩, h4, rfl, (if_pos (kd_isC.2 hkd)).symm, Nat.le_of_ble_eq_true h3, .full hw hkd h2⟩
  · cases hkd : kd (xo P o) with
    | c =>
      rw [hkd] at h
      exact ⟨.tuple [], ⟨S.H :: S.hs, put (cD o.dst) (.tuple []) S.r, S.D, S.H⟩, h, rfl, (if_pos (kd_isC.2 hkd)).symm, Nat.le_refl _, .skip hw rfl rfl rfl⟩
    | p =>
      rw [hkd] at h
      have hc : isC (xo P o) ≠ true := fun e => by rw [kd_isC.1 e] at hkd; cases hkd
      exact ⟨.tuple [], ⟨S.hs, put (cD o.dst) (.tuple []) S.r, S.D, S.H⟩, h, rfl, (if_neg hc).symm, Nat.le_refl _, .skip hw rfl rfl rfl⟩
    | l =>
      rw [hkd] at h
      have hc : isC (xo P o) ≠ true := fun e => by rw [kd_isC.1 e] at hkd; cases hkd
      exact ⟨.tuple [], ⟨S.hs, put (cD o.dst) (.tuple []) S.r, S.D, S.H⟩, h, rfl, (if_neg hc).symm, Nat.le_refl _, .skip hw rfl rfl rfl⟩
/-- The window of a load. -/
def win (B cs : List Nat) (i : Nat) (seen : List Nat) : Nat := (seen.filter fun c => cs.contains c && !(B.getD i 0).testBit c).length
theorem drawn_trace (hcl : CallOK P cl) (hok : ∀ o ∈ ops.toList, okXG n ops o = true) {B cs : List Nat} {k : KO} : ∀ (l seen : List Nat) (S : St), runD P (drawn B cs (ops.toList.map fun o => cXG P ops o .p) l seen) cl k S.hs S.r S.D S.H = true →
    ∃ (T : Nat → St) (v : Nat → AV), T 0 = S ∧ k (T l.length).r (T l.length).D (T l.length).H = true ∧
      ∀ q i, l[q]? = some i → ∃ o, ops[i]? = some o ∧ StepOK P ops o (win B cs i ((l.take q).reverse ++ seen)) (T q) (v q) (T (q + 1))
  | [], _, S, h => ⟨fun _ => S, fun _ => .tuple [], rfl, h, fun q i e => by simp at e⟩
  | i :: l, seen, S, h => by
    unfold drawn at h
    cases hi : ops[i]? with
    | none =>
      have : (ops.toList.map fun o => cXG P ops o .p)[i]? = none := by simp [hi]
      rw [this] at h
      exact ft h
    | some o =>
      have : (ops.toList.map fun o => cXG P ops o .p)[i]? = some (cXG P ops o .p) := by simp [hi]
      rw [this] at h
      have ho : o ∈ ops.toList := by
        have h1 := Array.mem_of_getElem? hi
        simpa using h1
      have h : gd (cGd ops o) S.r (clsK P (clsOf (kd (xo P o)) (win B cs i seen)) { cXG P ops o .p with c := clsOf (kd (xo P o)) (win B cs i seen) } cl (fun hs r D H => runD P (drawn B cs (ops.toList.map fun o => cXG P ops o .p) l (i :: seen)) cl k hs r D H) S.hs S.r S.D S.H)
        (skK (clsOf (kd (xo P o)) (win B cs i seen)) S.H S.hs (fun hs => runD P (drawn B cs (ops.toList.map fun o => cXG P ops o .p) l (i :: seen)) cl k hs (put (cD o.dst) (.tuple []) S.r) S.D S.H)) = true := h
      obtain ⟨v, S', h1, h2⟩ := step_ok (KK := fun hs r D H => runD P (drawn B cs (ops.toList.map fun o => cXG P ops o .p) l (i :: seen)) cl k hs r D H) hcl (hok o ho) h
      obtain ⟨T, vs, e1, e2, e3⟩ := drawn_trace hcl hok l (i :: seen) S' h1
      refine ⟨fun q => match q with | 0 => S | q + 1 => T q, fun q => match q with | 0 => v | q + 1 => vs q, rfl, e2, fun q j hq => ?_⟩
      cases q with
      | zero =>
        simp only [List.getElem?_cons_zero, Option.some.injEq] at hq
        subst hq
        exact ⟨o, hi, by simpa [e1] using h2⟩
      | succ q =>
        obtain ⟨o', h3, h4⟩ := e3 q j (by simpa using hq)
        exact ⟨o', h3, by simpa using h4⟩
end
end Go.Xe
