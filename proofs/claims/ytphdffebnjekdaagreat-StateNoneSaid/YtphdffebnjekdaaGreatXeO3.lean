/- Operations that look at no memory: slices, fields, what is built. -/
import Derived.Test.YtphdffebnjekdaaGreatXeO2
namespace Go.Xe
open Go
section
variable {P : Program} {o : Oper} {d : Dst} {s : Pl} {ρ : Operand → Value} {r : Regs}
theorem ovs_gvs : ∀ {l : List Operand}, (∀ x ∈ l, gv s (ov (cO x) r) = some (ρ x)) → gvs s (ovs (l.map cO) r) = some (l.map ρ)
  | [], _ => rfl
  | x :: l, h => gvs_cons.2 ⟨_, _, h x (by simp), ovs_gvs (l := l) fun y hy => h y (by simp [hy]), rfl⟩
theorem Fid.toNat_ofNat {n : Nat} (h : n < 4096) : (Fid.ofNat n).toNat = n := by
  simp only [Fid.ofNat, Fid.toNat]
  rw [D.toNat_ofNat (by omega), D.toNat_ofNat (by omega), D.toNat_ofNat (by omega)]
  omega
theorem pure_mkf {f : Nat} {first cap : Array Operand} (ho : o.op = .makeFunc (.func f) first cap) (hf : f < 4096) : Pure0 P o d (.mkf d (Fid.ofNat f) (first.toList.map cO) (cap.toList.map cO)) := fun cl ih r D H h => by
  have h : ih (put d (.func (Fid.ofNat f) (ovs (first.toList.map cO) r) (ovs (cap.toList.map cO) r)) r) D H = true := h
  refine ⟨_, h, fun s ρ hr => ⟨.func (.func f) (first.map ρ) (cap.map ρ), ?_, fun w => by simp only [execOp, ho, Instr.makeFunc]; rfl⟩⟩
  simp only [gv]
  rw [ovs_gvs (ρ := ρ) (fun x hx => hr x (by rw [ho]; exact Array.mem_append.2 (.inl (by simpa using hx)))), ovs_gvs (ρ := ρ) (fun x hx => hr x (by rw [ho]; exact Array.mem_append.2 (.inr (by simpa using hx))))]
  simp only [Fid.toNat_ofNat hf]
  simp only [Array.toArray_toList, ← Array.toList_map]
theorem gens_iff {xs : List AV} {f : Array Value → Sem Next} {k : AV → Bool} : gens P xs f k = true ↔ ∃ l, toVs xs = some l ∧ ∃ v, pureRun P (f l.toArray) = some (.value v) ∧ k (ofV v) = true := by
  unfold gens; rw [onSome_iff]
  constructor
  · rintro ⟨l, h1, h2⟩
    refine ⟨l, h1, ?_⟩
    unfold onVal at h2
    split at h2
    · rename_i v h3; exact ⟨v, h3, h2⟩
    · cases h2
  · rintro ⟨l, h1, v, h2, h3⟩
    exact ⟨l, h1, by unfold onVal; rw [h2]; exact h3⟩
theorem gvs_uniq {l : List AV} {us vs : List Value} (h : gvs s l = some us) (e : toVs l = some vs) : us = vs := by rw [gvs_toVs e] at h; exact (Option.some.inj h).symm
theorem pure_gblt {b : Builtin} {c : Call} (ho : o.op = .call c) (hc : c.callee = .builtin b) :
    Pure0 P o d (.gblt b c.argTypes o.type (c.args.map fun | .const _ => true | _ => false) d (c.args.toList.map cO)) := fun cl ih r D H h => by
  have h : gens P (ovs (c.args.toList.map cO) r) (fun vs => builtin b c.argTypes o.type (c.args.map fun | .const _ => true | _ => false) vs) (fun v => ih (put d v r) D H) = true := h
  obtain ⟨l, h1, v, h2, h⟩ := gens_iff.1 h
  refine ⟨_, h, fun s ρ hr => ⟨v, gv_ofV v, fun w => ?_⟩⟩
  have e := gvs_uniq (ovs_gvs (ρ := ρ) (fun x hx => hr x (by rw [ho]; show x ∈ c.operands; unfold Call.operands; rw [hc]; exact Array.mem_append.2 (.inr (by simpa using hx))))) h1
  have e2 : c.args.map ρ = l.toArray := by rw [← e, ← Array.toList_map, Array.toArray_toList]
  simp only [execOp, ho, resolve, hc, Sem.run_bind, Sem.run_pure, Result.andThen_ok, invoke, e2]
  exact pureRun_run h2 w
/-! Bounds. -/
theorem bound_sound {x : Option Operand} {n : Nat} {k : Nat → Bool} (h : bound (cOo x) r n k = true) : ∃ l, k l = true ∧ ∀ (s : Pl) (ρ : Operand → Value), (∀ y, x = some y → gv s (ov (cO y) r) = some (ρ y)) →
    (x = none ∧ l = n) ∨ ∃ j, x.map ρ = some (.int j (Int.ofNat l)) := by
  cases x with
  | none => exact ⟨n, h, fun s ρ _ => .inl ⟨rfl, rfl⟩⟩
  | some y =>
    obtain ⟨j, z, e, h⟩ := onInt_iff.1 (show onInt (ov (cO y) r) (fun _ n => onNat n k) = true from h)
    obtain ⟨l, rfl, h⟩ := onNat_iff.1 h
    exact ⟨l, h, fun s ρ hr => .inr ⟨j, by simp only [Option.map_some]; rw [gvv_int (hr y rfl) e]⟩⟩
theorem boundM_sound {x : Option Operand} {k : Option Nat → Bool} (h : boundM (cOo x) r k = true) : ∃ m, k m = true ∧ ∀ (s : Pl) (ρ : Operand → Value), (∀ y, x = some y → gv s (ov (cO y) r) = some (ρ y)) →
    (x = none ∧ m = none) ∨ ∃ j l, m = some l ∧ x.map ρ = some (.int j (Int.ofNat l)) := by
  cases x with
  | none => exact ⟨none, h, fun s ρ _ => .inl ⟨rfl, rfl⟩⟩
  | some y =>
    obtain ⟨j, z, e, h⟩ := onInt_iff.1 (show onInt (ov (cO y) r) (fun _ n => onNat n (fun n => k (some n))) = true from h)
    obtain ⟨l, rfl, h⟩ := onNat_iff.1 h
    exact ⟨some l, h, fun s ρ hr => .inr ⟨j, l, rfl, by simp only [Option.map_some]; rw [gvv_int (hr y rfl) e]⟩⟩
theorem run_sliceBound {j : IntKind} {l y : Nat} (h : l ≤ y) (c : BoundsCode) (w : World) : (Instr.sliceBound (.int j (Int.ofNat l)) y c).run P w = .ok l w := by
  simp only [Instr.sliceBound, asIntOf, Sem.run_bind, Sem.run_pure, Result.andThen_ok]
  rw [if_pos (by simp only [Int.ofNat_eq_natCast]; omega)]; simp
theorem run_sliceBounds {iss : Bool} {len cap l h m : Nat} {lo hi mx : Option Value} (hm : (mx = none ∧ m = cap) ∨ ∃ j, mx = some (.int j (Int.ofNat m))) (hmc : m ≤ cap)
    (hh : (hi = none ∧ mx = none ∧ h = len) ∨ ((∃ j, hi = some (.int j (Int.ofNat h))) ∧ h ≤ m)) (hl : (lo = none ∧ l = 0) ∨ ∃ j, lo = some (.int j (Int.ofNat l))) (hlh : l ≤ h) (w : World) :
    (Instr.sliceBounds iss len cap lo hi mx).run P w = .ok (l, h, m) w := by
  have f1 : ∀ j c, (Instr.sliceBound (.int j (Int.ofNat m)) cap c).run P w = .ok m w := fun j c => run_sliceBound hmc c w
  have f3 : ∀ j c, (Instr.sliceBound (.int j (Int.ofNat l)) h c).run P w = .ok l w := fun j c => run_sliceBound hlh c w
  rcases hh with ⟨rfl, rfl, rfl⟩ | ⟨⟨j, rfl⟩, hle⟩
  · obtain ⟨_, rfl⟩ := hm.resolve_right (fun ⟨_, e⟩ => by cases e)
    rcases hl with ⟨rfl, rfl⟩ | ⟨j, rfl⟩ <;> simp only [Instr.sliceBounds, Sem.run_bind, Sem.run_pure, Result.andThen_ok, f3]
  · have f2 : ∀ j c, (Instr.sliceBound (.int j (Int.ofNat h)) m c).run P w = .ok h w := fun j c => run_sliceBound hle c w
    rcases hm with ⟨rfl, rfl⟩ | ⟨j, rfl⟩ <;> rcases hl with ⟨rfl, rfl⟩ | ⟨j, rfl⟩ <;> simp only [Instr.sliceBounds, Sem.run_bind, Sem.run_pure, Result.andThen_ok, f1, f2, f3]
theorem forceN3 {a b c : Nat} {k : Nat → Nat → Nat → Bool} : forceN a (fun a => forceN b (fun b => forceN c (fun c => k a b c))) = k a b c := by rw [forceN_eq, forceN_eq, forceN_eq]
theorem boolRecN {b : Bool} {x y : Nat} : (@Bool.rec (fun _ => Nat) y x b) = if b = true then x else y := by cases b <;> rfl
theorem addr_add {b off n : Nat} : (Addr.mk b off none).add n = ⟨b, off + n, none⟩ := by
  unfold Addr.add
  by_cases h : n = 0
  · rw [if_pos h, h]; rfl
  · rw [if_neg h]
/-- A slice of a slice: its bounds, the value. -/
theorem sliceV_sound {i : Id} {off len q cap sz l h : Nat} {m : Option Nat} {k : AV → Bool} (hk : sliceV i off len q cap sz l h m k = true) :
    ∃ v, k v = true ∧ l ≤ h ∧ ∀ (s : Pl) (L : Loc) (c : Nat), s i = some L → ((q = 0 ∧ c = cap) ∨ (q = L.es + 1 ∧ off = cap * L.es ∧ cap + len ≤ L.cap ∧ c = L.cap - cap)) →
      m.getD c ≤ c ∧ h ≤ m.getD c ∧ gv s v = some (.slice (some ⟨L.b, L.base + (if m.getD c = l then off else off + l * sz), none⟩) (h - l) (m.getD c - l)) := by
  obtain ⟨h1, hk⟩ := chk_iff.1 (show chk (Nat.ble l h) (ifB (Nat.beq q 0) (sliceE m i off cap sz l h k) (chk (Nat.ble h len) (sliceM m i off len q cap sz l h k))) = true from hk)
  have h1 := Nat.le_of_ble_eq_true h1
  rcases ifB_iff.1 hk with ⟨hq, hk⟩ | ⟨hq, hk⟩
  · rw [Nat.beq_eq] at hq
    have fin : ∀ x, h ≤ x → x ≤ cap → m.getD cap = x → forceN (Nat.sub h l) (fun n => forceN (Nat.sub x l) (fun c => forceN (@Bool.rec (fun _ => Nat) (Nat.add off (Nat.mul l sz)) off (Nat.beq x l)) (fun o => k (.slice i o n 0 c)))) = true →
        ∃ v, k v = true ∧ l ≤ h ∧ ∀ (s : Pl) (L : Loc) (c : Nat), s i = some L → ((q = 0 ∧ c = cap) ∨ (q = L.es + 1 ∧ off = cap * L.es ∧ cap + len ≤ L.cap ∧ c = L.cap - cap)) →
          m.getD c ≤ c ∧ h ≤ m.getD c ∧ gv s v = some (.slice (some ⟨L.b, L.base + (if m.getD c = l then off else off + l * sz), none⟩) (h - l) (m.getD c - l)) := fun x hx hxc hm hk => by
      rw [forceN3, boolRecN] at hk
      refine ⟨_, hk, h1, fun s L c hL hc => ?_⟩
      obtain ⟨_, rfl⟩ := hc.resolve_right (fun e => by omega)
      rw [hm]
      refine ⟨hxc, hx, ?_⟩
      simp only [gv, hL, Option.map_some, Nat.beq_eq]
      rfl
    cases m with
    | none =>
      obtain ⟨h2, hk⟩ := chk_iff.1 (show chk (Nat.ble h cap) _ = true from hk)
      exact fin cap (Nat.le_of_ble_eq_true h2) (Nat.le_refl _) rfl hk
    | some x =>
      obtain ⟨h2, hk⟩ := chk_iff.1 (show chk (Nat.ble x cap) (chk (Nat.ble h x) _) = true from hk)
      obtain ⟨h3, hk⟩ := chk_iff.1 hk
      exact fin x (Nat.le_of_ble_eq_true h3) (Nat.le_of_ble_eq_true h2) rfl hk
  · have hq : q ≠ 0 := fun e => by rw [e] at hq; cases hq
    obtain ⟨h2, hk⟩ := chk_iff.1 hk
    have h2 := Nat.le_of_ble_eq_true h2
    cases m with
    | some x =>
      obtain ⟨h3, hk⟩ := chk_iff.1 (show chk (Nat.ble x len) (chk (Nat.ble h x) _) = true from hk)
      obtain ⟨h4, hk⟩ := chk_iff.1 hk
      have h3 := Nat.le_of_ble_eq_true h3
      have h4 := Nat.le_of_ble_eq_true h4
      rw [forceN3, boolRecN] at hk
      refine ⟨_, hk, h1, fun s L c hL hc => ?_⟩
      obtain ⟨_, e1, e2, rfl⟩ := hc.resolve_left (fun e => hq e.1)
      refine ⟨show x ≤ _ by omega, h4, ?_⟩
      simp only [gv, hL, Option.map_some, Nat.beq_eq, Option.getD_some]
      rfl
    | none =>
      rcases ifB_iff.1 (show ifB (Nat.beq l 0) (k (.slice i off h q cap)) (ifB (orF (Nat.beq l len) (notF (Nat.beq q (Nat.succ sz)))) false (forceN (Nat.sub h l) (fun n => forceN (Nat.add off (Nat.mul l sz)) (fun o => forceN (Nat.add cap l) (fun c => k (.slice i o n q c)))))) = true from hk) with ⟨e, hk⟩ | ⟨e, hk⟩
      · rw [Nat.beq_eq] at e; subst e
        refine ⟨_, hk, h1, fun s L c hL hc => ?_⟩
        obtain ⟨e0, e1, e2, rfl⟩ := hc.resolve_left (fun e => hq e.1)
        refine ⟨Nat.le_refl _, show h ≤ L.cap - cap by omega, ?_⟩
        subst e0
        simp only [gv, hL, Option.bind_some, Option.getD_none, Nat.sub_zero, Nat.zero_mul, Nat.add_zero, ite_self]
        rw [if_pos ⟨trivial, e1, by omega⟩]
      · rcases ifB_iff.1 hk with ⟨_, hk⟩ | ⟨e', hk⟩
        · cases hk
        · rw [forceN3] at hk
          rw [orF_eq, Bool.or_eq_false_iff, notF_eq, Bool.not_eq_false', Nat.beq_eq] at e'
          have hl : l ≠ len := fun e2 => by rw [e2, Nat.beq_refl] at e'; cases e'.1
          refine ⟨_, hk, h1, fun s L c hL hc => ?_⟩
          obtain ⟨e0, e1, e2, rfl⟩ := hc.resolve_left (fun e => hq e.1)
          have hes : sz = L.es := by have := e'.2; omega
          subst hes
          refine ⟨Nat.le_refl _, show h ≤ L.cap - cap by omega, ?_⟩
          rw [e'.2]
          simp only [gv, hL, Option.bind_some, Option.getD_none]
          rw [if_pos ⟨trivial, by show off + l * L.es = (cap + l) * L.es; rw [e1, Nat.add_mul], by show cap + l + (h - l) ≤ L.cap; omega⟩]
          rw [if_neg (by omega)]
          congr 2
          show L.cap - (cap + l) = _; omega
end
end Go.Xe
