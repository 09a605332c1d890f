/- Operations that look at no memory. -/
import Derived.Test.YtphdffebnjekdaaGreatXeG
import Derived.OrdersIn
import Derived.Laws.Strings
namespace Go.Xe
open Go
/-- What the operation looks at. -/
def OpR (s : Pl) (r : Regs) (ρ : Operand → Value) (o : Oper) : Prop := ∀ x ∈ o.op.operands, gv s (ov (cO x) r) = some (ρ x)
def Pure0 (P : Program) (o : Oper) (d : Dst) (x : XO) : Prop := ∀ cl ih r D H, step P x cl ih r D H = true → ∃ v, ih (put d v r) D H = true ∧
  ∀ s ρ, OpR s r ρ o → ∃ u, gv s v = some u ∧ ∀ w, (execOp ρ o).run P w = .ok (.value u) w
section
variable {P : Program} {o : Oper} {d : Dst} {s : Pl} {ρ : Operand → Value} {r : Regs}
/-! What a value is, by what the executor has of it. -/
theorem gvv_int {k : IntKind} {n : Int} {a : AV} {v : Value} (h : gv s a = some v) (e : a = .int k n) : v = .int k n := by subst e; simp only [gv, Option.some.injEq] at h; exact h.symm
theorem gvv_bool {b : Bool} {a : AV} {v : Value} (h : gv s a = some v) (e : a = .bool b) : v = .bool b := by subst e; simp only [gv, Option.some.injEq] at h; exact h.symm
theorem gvv_str {l : List Nat} {a : AV} {v : Value} (h : gv s a = some v) (e : a = .str l) : l.all (Nat.blt · 256) = true ∧ v = strV l := by
  subst e; simp only [gv] at h; split at h
  · rename_i h1; cases h; exact ⟨h1, rfl⟩
  · cases h
theorem gvv_toV {a : AV} {v u : Value} (h : gv s a = some v) (e : toV a = some u) : v = u := by rw [gv_toV e] at h; exact (Option.some.inj h).symm
theorem gvv_ptr {i : Id} {off : Nat} {a : AV} {v : Value} (h : gv s a = some v) (e : a = .ptr i off) : ∃ L, s i = some L ∧ v = .pointer (some ⟨L.b, L.base + off, none⟩) := by
  subst e; simp only [gv, Option.map_eq_some_iff] at h; obtain ⟨L, h1, rfl⟩ := h; exact ⟨L, h1, rfl⟩
theorem gvv_map {i : Id} {a : AV} {v : Value} (h : gv s a = some v) (e : a = .map i) : ∃ L, s i = some L ∧ v = .map (some L.b) := by
  subst e; simp only [gv, Option.map_eq_some_iff] at h; obtain ⟨L, h1, rfl⟩ := h; exact ⟨L, h1, rfl⟩
theorem gvv_agg {l : List AV} {a : AV} {v : Value} (h : gv s a = some v) (e : a = .agg l) : ∃ vs, gvs s l = some vs ∧ v = .agg vs.toArray := by
  subst e; simp only [gv] at h; split at h
  · rename_i vs h1; cases h; exact ⟨vs, h1, rfl⟩
  · cases h
theorem gvv_tuple {l : List AV} {a : AV} {v : Value} (h : gv s a = some v) (e : a = .tuple l) : ∃ vs, gvs s l = some vs ∧ v = .tuple vs.toArray := by
  subst e; simp only [gv] at h; split at h
  · rename_i vs h1; cases h; exact ⟨vs, h1, rfl⟩
  · cases h
theorem gvv_slice {i : Id} {off len cap ex : Nat} {a : AV} {v : Value} (h : gv s a = some v) (e : a = .slice i off len ex cap) :
    ∃ L c, s i = some L ∧ v = .slice (some ⟨L.b, L.base + off, none⟩) len c ∧ ((ex = 0 ∧ c = cap) ∨ (ex = L.es + 1 ∧ off = cap * L.es ∧ cap + len ≤ L.cap ∧ c = L.cap - cap)) := by
  subst e
  cases ex with
  | zero => simp only [gv, Option.map_eq_some_iff] at h; obtain ⟨L, h1, rfl⟩ := h; exact ⟨L, cap, h1, rfl, .inl ⟨rfl, rfl⟩⟩
  | succ q =>
    simp only [gv, Option.bind_eq_some_iff] at h
    obtain ⟨L, h1, h2⟩ := h
    split at h2
    · rename_i h3; cases h2; exact ⟨L, _, h1, rfl, .inr ⟨by rw [h3.1], h3.2.1, h3.2.2, rfl⟩⟩
    · cases h2
theorem gvv_nils {a : AV} {v : Value} (h : gv s a = some v) (e : a = .nils) : v = .slice none 0 0 := by subst e; simp only [gv, Option.some.injEq] at h; exact h.symm
theorem gvv_nilp {a : AV} {v : Value} (h : gv s a = some v) (e : a = .nilp) : v = .pointer none := by subst e; simp only [gv, Option.some.injEq] at h; exact h.symm
theorem gvv_func {f : Fid} {x y : List AV} {a : AV} {v : Value} (h : gv s a = some v) (e : a = .func f x y) : ∃ xs ys, gvs s x = some xs ∧ gvs s y = some ys ∧ v = .func (.func f.toNat) xs.toArray ys.toArray := by
  subst e; simp only [gv] at h; split at h
  · rename_i xs ys h1 h2; cases h; exact ⟨xs, ys, h1, h2, rfl⟩
  · cases h
/-! Types. -/
theorem run_underlying {t : TypeId} {u : TypeDesc} (h : P.underlying t = some u) (w : World) : (underlying t).run P w = .ok u w := by
  simp only [underlying, Sem.run_bind, run_program, Result.andThen_ok, h, Sem.run_pure]
theorem run_sizeOf {t : TypeId} {n : Nat} (h : sz P t = some n) (w : World) : (sizeOf t).run P w = .ok n w := by
  unfold sz at h
  obtain ⟨i, h1, h2⟩ := Option.map_eq_some_iff.1 h
  simp only [sizeOf, typeInfo, Sem.run_bind, run_program, Result.andThen_ok, h1, Sem.run_pure, h2]
theorem run_isAgg {t : TypeId} {u : TypeDesc} (h : P.underlying t = some u) (w : World) : (isAgg t).run P w = .ok (isAggD u) w := by
  simp only [isAgg, Sem.run_bind, run_underlying h, Result.andThen_ok]
  cases u <;> rfl
theorem run_zeroValue {t : TypeId} {i : TypeInfo} {v : Value} (h : P.info? t = some i) (hz : i.zero = some v) (w : World) : (zeroValue t).run P w = .ok v w := by
  simp only [zeroValue, typeInfo, Sem.run_bind, run_program, Result.andThen_ok, h, Sem.run_pure, hz]
/-! The operations. -/
theorem val_of {x : XO} (hx : ∀ cl ih r D H, step P x cl ih r D H = true → ∃ v, ih (put d v r) D H = true ∧ ∀ s ρ, OpR s r ρ o → ∃ u, gv s v = some u ∧ ∀ w, (execOp ρ o).run P w = .ok (.value u) w) : Pure0 P o d x := hx
theorem pure_mv {x : Operand} (ho : o.op = .move x ∨ o.op = .assign x) : Pure0 P o d (.mv d (cO x)) := fun cl ih r D H h =>
  ⟨ov (cO x) r, h, fun s ρ hr => ⟨ρ x, by rcases ho with ho | ho <;> exact hr x (by rw [ho]; simp [Op.operands]), fun w => by rcases ho with ho | ho <;> simp only [execOp, ho] <;> rfl⟩⟩
theorem pure_pick {c a b : Operand} (ho : o.op = .pick c a b) : Pure0 P o d (.pick d (cO c) (cO a) (cO b)) := fun cl ih r D H h => by
  have h : ifA (ov (cO c) r) (ih (put d (ov (cO a) r) r) D H) (ih (put d (ov (cO b) r) r) D H) = true := h
  rcases ifA_iff.1 h with ⟨e, h⟩ | ⟨e, h⟩
  · refine ⟨_, h, fun s ρ hr => ⟨ρ a, hr a (by rw [ho]; simp [Op.operands]), fun w => ?_⟩⟩
    have hc := gvv_bool (hr c (by rw [ho]; simp [Op.operands])) e
    simp [execOp, ho, hc, asBool]
  · refine ⟨_, h, fun s ρ hr => ⟨ρ b, hr b (by rw [ho]; simp [Op.operands]), fun w => ?_⟩⟩
    have hc := gvv_bool (hr c (by rw [ho]; simp [Op.operands])) e
    simp [execOp, ho, hc, asBool]
theorem nnil_run {a : AV} {v : Value} (h : gv s a = some v) (hn : nnil a = true) : (∃ x, v = .pointer (some x)) ∨ (∃ x n c, v = .slice (some x) n c) ∨ (∃ x, v = .map (some x)) ∨ (∃ f x y, v = .func (.func f) x y) ∨ (∃ l x y, v = .func (.yield l) x y) := by
  cases a with
  | ptr i off => obtain ⟨L, _, e⟩ := gvv_ptr h rfl; exact .inl ⟨_, e⟩
  | slice i off len ex cap => obtain ⟨L, c, _, e, _⟩ := gvv_slice h rfl; exact .inr (.inl ⟨_, _, _, e⟩)
  | map i => obtain ⟨L, _, e⟩ := gvv_map h rfl; exact .inr (.inr (.inl ⟨_, e⟩))
  | func f x y => obtain ⟨_, _, _, _, e⟩ := gvv_func h rfl; exact .inr (.inr (.inr (.inl ⟨_, _, _, e⟩)))
  | yield l => simp only [gv, Option.map_eq_some_iff] at h; obtain ⟨L, _, e⟩ := h; exact .inr (.inr (.inr (.inr ⟨_, _, _, e.symm⟩)))
  | _ => exact ft hn
theorem pure_nilck {x : Operand} (ho : o.op = .nilCheck x) : Pure0 P o d (.nilck d (cO x)) := fun cl ih r D H h => by
  have h : chk (nnil (ov (cO x) r)) (ih (put d (ov (cO x) r) r) D H) = true := h
  obtain ⟨hn, h⟩ := chk_iff.1 h
  refine ⟨_, h, fun s ρ hr => ?_⟩
  have hx := hr x (by rw [ho]; simp [Op.operands])
  refine ⟨ρ x, hx, fun w => ?_⟩
  rcases nnil_run hx hn with ⟨_, e⟩ | ⟨_, _, _, e⟩ | ⟨_, e⟩ | ⟨_, _, _, e⟩ | ⟨_, _, _, e⟩ <;> simp only [execOp, ho, e] <;> rfl
/-! Literal values. -/
theorem gen1_iff {x : AV} {f : Value → Sem Value} {k : AV → Bool} : gen1 P x f k = true ↔ ∃ a, toV x = some a ∧ ∃ v, pureRun P (f a) = some v ∧ k (ofV v) = true := by
  unfold gen1; simp only [onSome_iff]
theorem gen2_iff {x y : AV} {f : Value → Value → Sem Value} {k : AV → Bool} : gen2 P x y f k = true ↔ ∃ a, toV x = some a ∧ ∃ b, toV y = some b ∧ ∃ v, pureRun P (f a b) = some v ∧ k (ofV v) = true := by
  unfold gen2; simp only [onSome_iff]
theorem pure_gbin {op : BinOp} {t t' : TypeId} {x y : Operand} (ho : o.op = .binOp op t x y t') : Pure0 P o d (.gbin op t x y d (cO x) (cO y)) := fun cl ih r D H h => by
  have h : gen2 P (ov (cO x) r) (ov (cO y) r) (fun a b => do eqGuard op t x y a b; binOp op t a b) (fun v => ih (put d v r) D H) = true := h
  obtain ⟨a, ha, b, hb, v, hv, h⟩ := gen2_iff.1 h
  refine ⟨_, h, fun s ρ hr => ⟨v, gv_ofV v, fun w => ?_⟩⟩
  have ex := gvv_toV (hr x (by rw [ho]; simp [Op.operands])) ha
  have ey := gvv_toV (hr y (by rw [ho]; simp [Op.operands])) hb
  have := pureRun_run hv w
  simp only [execOp, ho, ex, ey]
  simp only [Sem.run_bind] at this ⊢
  rw [this]; rfl
theorem pure_gun {op : UnOp} {t : TypeId} {x : Operand} (ho : o.op = .unOp op t x) : Pure0 P o d (.gun op d (cO x)) := fun cl ih r D H h => by
  have h : gen1 P (ov (cO x) r) (fun a => Op.unary op a) (fun v => ih (put d v r) D H) = true := h
  obtain ⟨a, ha, v, hv, h⟩ := gen1_iff.1 h
  refine ⟨_, h, fun s ρ hr => ⟨v, gv_ofV v, fun w => ?_⟩⟩
  have ex := gvv_toV (hr x (by rw [ho]; simp [Op.operands])) ha
  simp only [execOp, ho, ex, Sem.run_bind, pureRun_run hv w]; rfl
theorem pure_gcv {a b : TypeId} {x : Operand} (ho : o.op = .convert a b x) : Pure0 P o d (.gcv a b d (cO x)) := fun cl ih r D H h => by
  have h : gen1 P (ov (cO x) r) (fun v => convert a b v) (fun v => ih (put d v r) D H) = true := h
  obtain ⟨y, ha, v, hv, h⟩ := gen1_iff.1 h
  refine ⟨_, h, fun s ρ hr => ⟨v, gv_ofV v, fun w => ?_⟩⟩
  have ex := gvv_toV (hr x (by rw [ho]; simp [Op.operands])) ha
  simp only [execOp, ho, ex, Sem.run_bind, pureRun_run hv w]; rfl
theorem pure_gidx {t : TypeId} {x i : Operand} (ho : o.op = .index t x i) : Pure0 P o d (.gidx t d (cO x) (cO i)) := fun cl ih r D H h => by
  have h : gen2 P (ov (cO x) r) (ov (cO i) r) (fun a b => Instr.index t a b) (fun v => ih (put d v r) D H) = true := h
  obtain ⟨a, ha, b, hb, v, hv, h⟩ := gen2_iff.1 h
  refine ⟨_, h, fun s ρ hr => ⟨v, gv_ofV v, fun w => ?_⟩⟩
  have ex := gvv_toV (hr x (by rw [ho]; simp [Op.operands])) ha
  have ey := gvv_toV (hr i (by rw [ho]; simp [Op.operands])) hb
  simp only [execOp, ho, ex, ey, Sem.run_bind, pureRun_run hv w]; rfl
theorem pure_not {t : TypeId} {x : Operand} (ho : o.op = .unOp .not t x) : Pure0 P o d (.not d (cO x)) := fun cl ih r D H h => by
  have h : onBool (ov (cO x) r) (fun b => ih (put d (.bool (notF b)) r) D H) = true := h
  obtain ⟨b, e, h⟩ := onBool_iff.1 h
  refine ⟨_, h, fun s ρ hr => ⟨.bool (notF b), rfl, fun w => ?_⟩⟩
  have ex := gvv_bool (hr x (by rw [ho]; simp [Op.operands])) e
  simp only [execOp, ho, ex, Op.unary, notF_eq]; rfl
theorem pure_cvi {a b : TypeId} {k k' : IntKind} {x : Operand} (ho : o.op = .convert a b x) (ha : P.underlying a = some (.int k')) (hb : P.underlying b = some (.int k)) : Pure0 P o d (.cvi k d (cO x)) := fun cl ih r D H h => by
  have h : onInt (ov (cO x) r) (fun _ n => forceI (wrapF n k) (fun n => ih (put d (.int k n) r) D H)) = true := h
  obtain ⟨j, n, e, h⟩ := onInt_iff.1 h
  rw [forceI_eq, wrapF_eq] at h
  refine ⟨_, h, fun s ρ hr => ⟨.int k (k.wrap n), rfl, fun w => ?_⟩⟩
  have ex := gvv_int (hr x (by rw [ho]; simp [Op.operands])) e
  simp only [execOp, ho, ex, convert, Sem.run_bind, run_underlying ha, run_underlying hb, Result.andThen_ok, Conv.intToInt, Sem.run_pure]
end
end Go.Xe
