/- Operations that look at no memory: the rest. -/
import Derived.Test.YtphdffebnjekdaaGreatXeO3
namespace Go.Xe
open Go
section
variable {P : Program} {o : Oper} {d : Dst} {s : Pl} {ρ : Operand → Value} {r : Regs}
theorem mem_opt {x : Option Operand} {y : Operand} (h : x = some y) : y ∈ x.toArray := by subst h; simp
theorem slice_ops {t : TypeId} {x : Operand} {lo hi mx : Option Operand} (ho : o.op = .slice t x lo hi mx) (hr : OpR s r ρ o) :
    gv s (ov (cO x) r) = some (ρ x) ∧ (∀ y, lo = some y → gv s (ov (cO y) r) = some (ρ y)) ∧ (∀ y, hi = some y → gv s (ov (cO y) r) = some (ρ y)) ∧ (∀ y, mx = some y → gv s (ov (cO y) r) = some (ρ y)) := by
  refine ⟨hr x ?_, fun y e => hr y ?_, fun y e => hr y ?_, fun y e => hr y ?_⟩ <;> rw [ho] <;> simp only [Op.operands, Array.mem_append]
  · exact .inl (.inl (.inl (by simp)))
  · exact .inl (.inl (.inr (mem_opt e)))
  · exact .inl (.inr (mem_opt e))
  · exact .inr (mem_opt e)
theorem bounds_at {lo hi mx : Option Operand} {l h len c : Nat} {m : Option Nat} (hx : mx = none ∨ hi ≠ none) (hl : (lo = none ∧ l = 0) ∨ ∃ j, lo.map ρ = some (.int j (Int.ofNat l))) (hh : (hi = none ∧ h = len) ∨ ∃ j, hi.map ρ = some (.int j (Int.ofNat h)))
    (hm : (mx = none ∧ m = none) ∨ ∃ j l, m = some l ∧ mx.map ρ = some (.int j (Int.ofNat l))) (h1 : l ≤ h) (h2 : m.getD c ≤ c) (h3 : h ≤ m.getD c) (iss : Bool) (w : World) :
    (Instr.sliceBounds iss len c (lo.map ρ) (hi.map ρ) (mx.map ρ)).run P w = .ok (l, h, m.getD c) w := by
  refine run_sliceBounds ?_ h2 ?_ ?_ h1 w
  · rcases hm with ⟨rfl, rfl⟩ | ⟨j, x, rfl, e⟩
    · exact .inl ⟨rfl, rfl⟩
    · exact .inr ⟨j, e⟩
  · rcases hh with ⟨rfl, rfl⟩ | e
    · obtain rfl := hx.resolve_right (fun e => e rfl)
      exact .inl ⟨rfl, rfl, rfl⟩
    · exact .inr ⟨e, h3⟩
  · rcases hl with ⟨rfl, rfl⟩ | e
    · exact .inl ⟨rfl, rfl⟩
    · exact .inr e
theorem pure_slc {t e : TypeId} {n : Nat} {x : Operand} {lo hi mx : Option Operand} (ho : o.op = .slice t x lo hi mx) (hu : P.underlying t = some (.slice e)) (hn : sz P e = some n) (hx : mx = none ∨ hi ≠ none) :
    Pure0 P o d (.slc d n (cO x) (cOo lo) (cOo hi) (cOo mx)) := fun cl ih r D H h => by
  have h : slcA (ov (cO x) r) n (cOo lo) (cOo hi) (cOo mx) r (fun v => ih (put d v r) D H) = true := h
  have er : ∀ (a : Option Addr) (len c : Nat) (lo hi mx : Option Value) (w : World), (Instr.sliceAt t (.slice a len c) lo hi mx).run P w =
      (do let (l, h, m) ← Instr.sliceBounds true len c lo hi mx
          pure (Value.slice (if m = l then a else a.map (·.add (l * n))) (h - l) (m - l)) : Sem Value).run P w := fun a len c lo hi mx w => by
    simp only [Instr.sliceAt, Instr.slice, Sem.run_bind, run_underlying hu, Result.andThen_ok, run_sizeOf hn]
  cases hxv : ov (cO x) r with
  | slice i off len q cap =>
    rw [hxv] at h
    have h : bound (cOo lo) r 0 (fun l => bound (cOo hi) r len (fun h => boundM (cOo mx) r (fun m => sliceV i off len q cap n l h m (fun v => ih (put d v r) D H)))) = true := h
    obtain ⟨l, h, hl⟩ := bound_sound h
    obtain ⟨hh, h, hhs⟩ := bound_sound h
    obtain ⟨m, h, hm⟩ := boundM_sound h
    obtain ⟨v, h, hle, hv⟩ := sliceV_sound h
    refine ⟨v, h, fun s ρ hr => ?_⟩
    obtain ⟨g1, g2, g3, g4⟩ := slice_ops ho hr
    obtain ⟨L, c, hL, ex, hc⟩ := gvv_slice g1 hxv
    obtain ⟨b1, b2, b3⟩ := hv s L c hL hc
    refine ⟨_, b3, fun w => ?_⟩
    simp only [execOp, ho, ex, Sem.run_bind]
    rw [er]
    simp only [Sem.run_bind, bounds_at hx (hl s ρ g2) (hhs s ρ g3) (hm s ρ g4) hle b1 b2, Result.andThen_ok, Sem.run_pure]
    congr 3
    by_cases e : m.getD c = l
    · rw [if_pos e, if_pos e]
    · rw [if_neg e, if_neg e]; simp only [Option.map_some, addr_add, Nat.add_assoc]
  | nils =>
    rw [hxv] at h
    have h : bound (cOo lo) r 0 (fun l => bound (cOo hi) r 0 (fun h => boundM (cOo mx) r (fun m => chk (Nat.beq l 0) (chk (Nat.beq h 0) (noneOr0 m (ih (put d .nils r) D H)))))) = true := h
    obtain ⟨l, h, hl⟩ := bound_sound h
    obtain ⟨hh, h, hhs⟩ := bound_sound h
    obtain ⟨m, h, hm⟩ := boundM_sound h
    obtain ⟨e1, h⟩ := chk_iff.1 h
    obtain ⟨e2, h⟩ := chk_iff.1 h
    rw [Nat.beq_eq] at e1 e2
    have h0 : m.getD 0 = 0 ∧ ih (put d .nils r) D H = true := by
      cases m with
      | none => exact ⟨rfl, h⟩
      | some x =>
        obtain ⟨e, h⟩ := chk_iff.1 (show chk (Nat.beq x 0) _ = true from h)
        rw [Nat.beq_eq] at e; exact ⟨e, h⟩
    refine ⟨.nils, h0.2, fun s ρ hr => ⟨_, rfl, fun w => ?_⟩⟩
    obtain ⟨g1, g2, g3, g4⟩ := slice_ops ho hr
    have ex := gvv_nils g1 hxv
    simp only [execOp, ho, ex, Sem.run_bind]
    rw [er]
    subst e1; subst e2
    have := bounds_at (P := P) (c := 0) hx (hl s ρ g2) (hhs s ρ g3) (hm s ρ g4) (Nat.le_refl _) (by rw [h0.1]; exact Nat.le_refl _) (Nat.zero_le _) true w
    simp only [Sem.run_bind, this, Result.andThen_ok, Sem.run_pure, h0.1]
    rfl
  | _ => rw [hxv] at h; exact ft h
theorem pure_slca {t e : TypeId} {n k : Nat} {x : Operand} {lo hi mx : Option Operand} (ho : o.op = .slice t x lo hi mx) (hu : P.underlying t = some (.array k e) ∨ ∃ a, P.underlying t = some (.pointer a) ∧ P.underlying a = some (.array k e))
    (hn : sz P e = some n) (hx : mx = none ∨ hi ≠ none) : Pure0 P o d (.slca d n k (cO x) (cOo lo) (cOo hi) (cOo mx)) := fun cl ih r D H h => by
  have h : onPtr (ov (cO x) r) (fun i off => bound (cOo lo) r 0 (fun l => bound (cOo hi) r k (fun h => boundM (cOo mx) r (fun m => sliceV i off k 0 k n l h m (fun v => ih (put d v r) D H))))) = true := h
  obtain ⟨i, off, hxv, h⟩ := onPtr_iff.1 h
  obtain ⟨l, h, hl⟩ := bound_sound h
  obtain ⟨hh, h, hhs⟩ := bound_sound h
  obtain ⟨m, h, hm⟩ := boundM_sound h
  obtain ⟨v, h, hle, hv⟩ := sliceV_sound h
  refine ⟨v, h, fun s ρ hr => ?_⟩
  obtain ⟨g1, g2, g3, g4⟩ := slice_ops ho hr
  obtain ⟨L, hL, ex⟩ := gvv_ptr g1 hxv
  obtain ⟨b1, b2, b3⟩ := hv s L k hL (.inl ⟨rfl, rfl⟩)
  refine ⟨_, b3, fun w => ?_⟩
  have hb := bounds_at (P := P) hx (hl s ρ g2) (hhs s ρ g3) (hm s ρ g4) hle b1 b2 false w
  have hfin : (if m.getD k = l then (Addr.mk L.b (L.base + off) none) else (Addr.mk L.b (L.base + off) none).add (l * n)) = ⟨L.b, L.base + (if m.getD k = l then off else off + l * n), none⟩ := by
    by_cases e : m.getD k = l
    · rw [if_pos e, if_pos e]
    · rw [if_neg e, if_neg e, addr_add, Nat.add_assoc]
  rcases hu with hu | ⟨a, hu, hu2⟩
  · simp only [execOp, ho, ex, Sem.run_bind, Instr.sliceAt, run_underlying hu, Result.andThen_ok, Instr.sureAddr, Sem.run_pure, hb, run_sizeOf hn, hfin]
  · simp only [execOp, ho, ex, Sem.run_bind, Instr.sliceAt, Instr.slice, run_underlying hu, run_underlying hu2, Result.andThen_ok, asAddr, Sem.run_pure, hb, run_sizeOf hn, hfin]
theorem all_take {s : List Nat} {n : Nat} (h : s.all (Nat.blt · 256) = true) : (s.take n).all (Nat.blt · 256) = true := List.all_eq_true.2 fun x hx => List.all_eq_true.1 h x (List.mem_of_mem_take hx)
theorem all_drop {s : List Nat} {n : Nat} (h : s.all (Nat.blt · 256) = true) : (s.drop n).all (Nat.blt · 256) = true := List.all_eq_true.2 fun x hx => List.all_eq_true.1 h x (List.mem_of_mem_drop hx)
theorem strB_size (s : List Nat) : (ByteArray.mk (s.map UInt8.ofNat).toArray).size = s.length := by simp [ByteArray.size]
theorem strB_extract (s : List Nat) (l h : Nat) : (ByteArray.mk (s.map UInt8.ofNat).toArray).extract l h = ⟨(((s.take h).drop l).map UInt8.ofNat).toArray⟩ := by
  apply ByteArray.ext
  apply Array.toList_inj.1
  simp [ByteArray.data_extract, List.extract_eq_take_drop, List.map_drop, List.map_take, List.drop_take]
theorem pure_slcs {t : TypeId} {x : Operand} {lo hi : Option Operand} (ho : o.op = .slice t x lo hi none) (hu : P.underlying t = some .string) : Pure0 P o d (.slcs d (cO x) (cOo lo) (cOo hi)) := fun cl ih r D H h => by
  have h : onStr (ov (cO x) r) (fun s => bound (cOo lo) r 0 (fun l => bound (cOo hi) r (lenF s) (fun h => chk (Nat.ble l h) (cut h s (fun p _ => cut l p (fun _ q => ih (put d (.str q) r) D H)))))) = true := h
  obtain ⟨b, hxv, h⟩ := onStr_iff.1 h
  rw [lenF_eq] at h
  obtain ⟨l, h, hl⟩ := bound_sound h
  obtain ⟨hh, h, hhs⟩ := bound_sound h
  obtain ⟨e1, h⟩ := chk_iff.1 h
  obtain ⟨e2, h⟩ := cut_iff.1 h
  obtain ⟨e3, h⟩ := cut_iff.1 h
  have e1 := Nat.le_of_ble_eq_true e1
  refine ⟨_, h, fun s ρ hr => ?_⟩
  obtain ⟨g1, g2, g3, g4⟩ := slice_ops ho hr
  obtain ⟨hb, ex⟩ := gvv_str g1 hxv
  refine ⟨strV ((b.take hh).drop l), by simp only [gv]; rw [if_pos (all_drop (all_take hb))], fun w => ?_⟩
  have hbd := bounds_at (P := P) (mx := none) (m := none) (c := b.length) (.inl rfl) (hl s ρ g2) (hhs s ρ g3) (.inl ⟨rfl, rfl⟩) e1 (Nat.le_refl _) e2 false w
  simp only [Option.map_none] at hbd
  simp only [execOp, ho, ex, strV, Sem.run_bind, Instr.sliceAt, Instr.slice, run_underlying hu, Result.andThen_ok, strB_size, Option.map_none, Option.isSome_none, Bool.false_eq_true, if_false, Sem.run_pure, hbd, strB_extract]
/-! Fields, elements. -/
theorem cField_spec {t : TypeId} {f off n : Nat} {agg : Bool} (h : cField P t f = some (off, n, agg)) : ∃ fs fd u, P.underlying t = some (.struct fs) ∧ fs[f]? = some fd ∧ sz P fd.type = some n ∧ P.underlying fd.type = some u ∧ fd.offset = off ∧ isAggD u = agg := by
  unfold cField at h
  split at h
  · rename_i fs h1
    split at h
    · rename_i fd h2
      split at h
      · rename_i m u h3 h4
        simp only [Option.some.injEq, Prod.mk.injEq] at h
        obtain ⟨rfl, rfl, rfl⟩ := h
        exact ⟨fs, fd, u, h1, h2, h3, h4, rfl, rfl⟩
      · cases h
    · cases h
  · cases h
theorem pure_fa {t : TypeId} {x : Operand} {f off n : Nat} {agg : Bool} (ho : o.op = .fieldAddr t x f) (hf : cField P t f = some (off, n + 1, agg)) : Pure0 P o d (.fa d (cO x) off) := fun cl ih r D H h => by
  have h : onPtr (ov (cO x) r) (fun i o => forceN (Nat.add o off) (fun o => ih (put d (.ptr i o) r) D H)) = true := h
  obtain ⟨i, b, e, h⟩ := onPtr_iff.1 h
  rw [forceN_eq] at h
  obtain ⟨fs, fd, u, h1, h2, h3, h4, rfl, _⟩ := cField_spec hf
  refine ⟨_, h, fun s ρ hr => ?_⟩
  obtain ⟨L, hL, ex⟩ := gvv_ptr (hr x (by rw [ho]; simp [Op.operands])) e
  refine ⟨_, by simp only [gv, hL, Option.map_some]; rfl, fun w => ?_⟩
  simp only [execOp, ho, ex, Instr.fieldAt, Sem.run_bind, run_underlying h1, Result.andThen_ok, h2, Instr.sureAddr, Sem.run_pure, fieldPlace, run_sizeOf h3, Nat.add_one_ne_zero, if_false, addr_add, Nat.add_assoc]
  rfl
theorem pure_fld {t : TypeId} {x : Operand} {f off n : Nat} (ho : o.op = .field t x f) (hf : cField P t f = some (off, n, false)) : Pure0 P o d (.fld d (cO x) off) := fun cl ih r D H h => by
  have h : onAgg (ov (cO x) r) (fun l => nth off l (fun v => ih (put d v r) D H)) = true := h
  obtain ⟨l, e, h⟩ := onAgg_iff.1 h
  obtain ⟨v, e2, hk⟩ := nth_iff.1 h
  obtain ⟨fs, fd, u, h1, h2, h3, h4, rfl, h5⟩ := cField_spec hf
  refine ⟨v, hk, fun s ρ hr => ?_⟩
  obtain ⟨vs, hvs, ex⟩ := gvv_agg (hr x (by rw [ho]; simp [Op.operands])) e
  obtain ⟨y, hy, hv⟩ := gvs_get hvs e2
  refine ⟨y, hv, fun w => ?_⟩
  have hy' : vs.toArray[fd.offset]? = some y := by simpa using hy
  simp only [execOp, ho, ex, Instr.field, Sem.run_bind, run_underlying h1, Result.andThen_ok, h2, asAgg, Sem.run_pure, part, run_isAgg h4, h5, Bool.false_eq_true, if_false, hy']
theorem gvs_take {l : List AV} {vs : List Value} (n : Nat) (h : gvs s l = some vs) : gvs s (l.take n) = some (vs.take n) := by
  induction l generalizing n vs with
  | nil => rw [gvs_nil] at h; subst h; simp [gvs]
  | cons a l ih =>
    obtain ⟨v, us, h1, h2, rfl⟩ := gvs_cons.1 h
    cases n with
    | zero => rfl
    | succ n => exact gvs_cons.2 ⟨v, _, h1, ih n h2, rfl⟩
theorem gvs_drop {l : List AV} {vs : List Value} (n : Nat) (h : gvs s l = some vs) : gvs s (l.drop n) = some (vs.drop n) := by
  induction l generalizing n vs with
  | nil => rw [gvs_nil] at h; subst h; simp [gvs]
  | cons a l ih =>
    cases n with
    | zero => exact h
    | succ n => obtain ⟨v, us, h1, h2, rfl⟩ := gvs_cons.1 h; exact ih n h2
theorem extract_list (vs : List Value) (a n : Nat) : vs.toArray.extract a (a + n) = ((vs.drop a).take n).toArray := by
  apply Array.toList_inj.1
  simp [List.extract_eq_take_drop]
theorem pure_fldn {t : TypeId} {x : Operand} {f off n : Nat} (ho : o.op = .field t x f) (hf : cField P t f = some (off, n, true)) : Pure0 P o d (.fldn d (cO x) off n) := fun cl ih r D H h => by
  have h : onAgg (ov (cO x) r) (fun l => cut off l (fun _ q => cut n q (fun c _ => ih (put d (.agg c) r) D H))) = true := h
  obtain ⟨l, e, h⟩ := onAgg_iff.1 h
  obtain ⟨e2, h⟩ := cut_iff.1 h
  obtain ⟨e3, hk⟩ := cut_iff.1 h
  obtain ⟨fs, fd, u, h1, h2, h3, h4, rfl, h5⟩ := cField_spec hf
  refine ⟨_, hk, fun s ρ hr => ?_⟩
  obtain ⟨vs, hvs, ex⟩ := gvv_agg (hr x (by rw [ho]; simp [Op.operands])) e
  refine ⟨.agg ((vs.drop fd.offset).take n).toArray, by simp only [gv]; rw [gvs_take n (gvs_drop fd.offset hvs)], fun w => ?_⟩
  simp only [execOp, ho, ex, Instr.field, Sem.run_bind, run_underlying h1, Result.andThen_ok, h2, asAgg, Sem.run_pure, part, run_isAgg h4, h5, if_true, run_sizeOf h3, extract_list]
theorem pure_ia {t e : TypeId} {n : Nat} {x i : Operand} (ho : o.op = .indexAddr t x i) (hu : P.underlying t = some (.slice e)) (hn : sz P e = some n) : Pure0 P o d (.ia d (cO x) (cO i) n) := fun cl ih r D H h => by
  have h : onInt (ov (cO i) r) (fun _ z => onNat z (fun z => onSlice (ov (cO x) r) (fun i off len _ _ => chk (Nat.blt z len) (forceN (Nat.add off (Nat.mul z n)) (fun o => ih (put d (.ptr i o) r) D H))))) = true := h
  obtain ⟨k, z, e1, h⟩ := onInt_iff.1 h
  obtain ⟨z, rfl, h⟩ := onNat_iff.1 h
  obtain ⟨i', off, len, q, cap, e2, h⟩ := onSlice_iff.1 h
  obtain ⟨e3, h⟩ := chk_iff.1 h
  rw [Nat.blt_eq] at e3
  rw [forceN_eq] at h
  refine ⟨_, h, fun s ρ hr => ?_⟩
  have ei := gvv_int (hr i (by rw [ho]; simp [Op.operands])) e1
  obtain ⟨L, c, hL, ex, _⟩ := gvv_slice (hr x (by rw [ho]; simp [Op.operands])) e2
  refine ⟨_, by simp only [gv, hL, Option.map_some]; rfl, fun w => ?_⟩
  simp only [execOp, ho, ex, ei, Instr.indexAt, Sem.run_bind, asIntOf, Sem.run_pure, run_underlying hu, Result.andThen_ok]
  rw [Sem.run_ite, if_pos (by simp only [Int.ofNat_eq_natCast]; omega)]
  simp only [Sem.run_bind, run_sizeOf hn, Result.andThen_ok, Sem.run_pure, addr_add, Int.toNat_natCast, Int.ofNat_eq_natCast, Nat.add_assoc]
  rfl
theorem pure_iaa {t e : TypeId} {n k : Nat} {x i : Operand} (ho : o.op = .indexAddr t x i) (hu : P.underlying t = some (.array k e)) (hn : sz P e = some n) : Pure0 P o d (.iaa d (cO x) (cO i) n k) := fun cl ih r D H h => by
  have h : onInt (ov (cO i) r) (fun _ z => onNat z (fun z => onPtr (ov (cO x) r) (fun i off => chk (Nat.blt z k) (forceN (Nat.add off (Nat.mul z n)) (fun o => ih (put d (.ptr i o) r) D H))))) = true := h
  obtain ⟨j, z, e1, h⟩ := onInt_iff.1 h
  obtain ⟨z, rfl, h⟩ := onNat_iff.1 h
  obtain ⟨i', off, e2, h⟩ := onPtr_iff.1 h
  obtain ⟨e3, h⟩ := chk_iff.1 h
  rw [Nat.blt_eq] at e3
  rw [forceN_eq] at h
  refine ⟨_, h, fun s ρ hr => ?_⟩
  have ei := gvv_int (hr i (by rw [ho]; simp [Op.operands])) e1
  obtain ⟨L, hL, ex⟩ := gvv_ptr (hr x (by rw [ho]; simp [Op.operands])) e2
  refine ⟨_, by simp only [gv, hL, Option.map_some]; rfl, fun w => ?_⟩
  simp only [execOp, ho, ex, ei, Instr.indexAt, Sem.run_bind, asIntOf, Sem.run_pure, run_underlying hu, Result.andThen_ok, Instr.sureAddr]
  rw [Sem.run_ite, if_pos (by simp only [Int.ofNat_eq_natCast]; omega)]
  simp only [Sem.run_bind, run_sizeOf hn, Result.andThen_ok, Sem.run_pure, addr_add, Int.toNat_natCast, Int.ofNat_eq_natCast, Nat.add_assoc]
  rfl
theorem pure_idx {t : TypeId} {x i : Operand} (ho : o.op = .index t x i) (hu : P.underlying t = some .string) : Pure0 P o d (.idx d (cO x) (cO i)) := fun cl ih r D H h => by
  have h : onInt (ov (cO i) r) (fun _ z => onNat z (fun z => onStr (ov (cO x) r) (fun s => nth z s (fun b => ih (put d (byteV b) r) D H)))) = true := h
  obtain ⟨j, z, e1, h⟩ := onInt_iff.1 h
  obtain ⟨z, rfl, h⟩ := onNat_iff.1 h
  obtain ⟨b, e2, h⟩ := onStr_iff.1 h
  obtain ⟨c, e3, h⟩ := nth_iff.1 h
  refine ⟨_, h, fun s ρ hr => ?_⟩
  have ei := gvv_int (hr i (by rw [ho]; simp [Op.operands])) e1
  obtain ⟨hb, ex⟩ := gvv_str (hr x (by rw [ho]; simp [Op.operands])) e2
  refine ⟨_, rfl, fun w => ?_⟩
  have hc : c < 256 := by have := List.all_eq_true.1 hb c (List.mem_of_getElem? e3); rwa [Nat.blt_eq] at this
  have hz : z < b.length := (List.getElem?_eq_some_iff.1 e3).1
  have hg : (ByteArray.mk (b.map UInt8.ofNat).toArray)[z]? = some (UInt8.ofNat c) := by
    have hz' : z < (ByteArray.mk (b.map UInt8.ofNat).toArray).size := by rw [strB_size]; exact hz
    rw [getElem?_pos _ z hz']
    congr 1
    show (b.map UInt8.ofNat).toArray[z]'_ = _
    obtain ⟨_, e⟩ := List.getElem?_eq_some_iff.1 e3
    simp [e]
  simp only [execOp, ho, ex, ei, strV, Instr.index, Sem.run_bind, asIntOf, Sem.run_pure, run_underlying hu, Result.andThen_ok]
  rw [if_pos (by simp only [Int.ofNat_eq_natCast]; omega)]
  simp only [Int.toNat_natCast, Int.ofNat_eq_natCast, hg, Sem.run_pure]
  simp [UInt8.toNat_ofNat', Nat.mod_eq_of_lt hc]
theorem pure_ext {x : Operand} {i : Nat} (ho : o.op = .extract x i) : Pure0 P o d (.ext d (cO x) i) := fun cl ih r D H h => by
  have h : onTuple (ov (cO x) r) (fun l => nth i l (fun v => ih (put d v r) D H)) = true := h
  obtain ⟨l, e, h⟩ := onTuple_iff.1 h
  obtain ⟨v, e2, h⟩ := nth_iff.1 h
  refine ⟨v, h, fun s ρ hr => ?_⟩
  obtain ⟨vs, hvs, ex⟩ := gvv_tuple (hr x (by rw [ho]; simp [Op.operands])) e
  obtain ⟨y, hy, hv⟩ := gvs_get hvs e2
  refine ⟨y, hv, fun w => ?_⟩
  have hy' : vs.toArray[i]? = some y := by simpa using hy
  simp only [execOp, ho, ex, Instr.extract, hy', Sem.run_bind, Sem.run_pure, Result.andThen_ok]
/-! The builtins of no memory. -/
theorem call_args {c : Call} {b : Builtin} {l : List Operand} (ho : o.op = .call c) (hc : c.callee = .builtin b) (hl : c.args.toList = l) (hr : OpR s r ρ o) : ∀ x ∈ l, gv s (ov (cO x) r) = some (ρ x) := fun x hx =>
  hr x (by rw [ho]; show x ∈ c.operands; unfold Call.operands; rw [hc]; exact Array.mem_append.2 (.inr (by rw [← hl] at hx; simpa using hx)))
theorem call_run {c : Call} {b : Builtin} {l : List Operand} (ho : o.op = .call c) (hc : c.callee = .builtin b) (hl : c.args.toList = l) (w : World) :
    (execOp ρ o).run P w = (builtin b c.argTypes o.type (c.args.map fun | .const _ => true | _ => false) (l.map ρ).toArray).run P w := by
  have : c.args.map ρ = (l.map ρ).toArray := by rw [← hl, ← Array.toList_map, Array.toArray_toList]
  simp only [execOp, ho, resolve, hc, Sem.run_bind, Sem.run_pure, Result.andThen_ok, invoke, this]
  rfl
theorem pure_len {c : Call} {t e : TypeId} {x : Operand} (ho : o.op = .call c) (hc : c.callee = .builtin .len) (hl : c.args.toList = [x]) (ht : c.argTypes[0]? = some t) (hu : P.underlying t = some (.slice e)) :
    Pure0 P o d (.len d (cO x)) := fun cl ih r D H h => by
  have h : lenL (ov (cO x) r) (fun n => ih (put d (.int .i64 (Int.ofNat n)) r) D H) = true := h
  have key : ∃ n, ih (put d (.int .i64 (Int.ofNat n)) r) D H = true ∧ ∀ s ρ, OpR s r ρ o → ∃ a c, ρ x = .slice a n c := by
    cases hxv : ov (cO x) r with
    | slice i off len q cap => rw [hxv] at h; exact ⟨len, h, fun s ρ hr => let ⟨_, _, _, ex, _⟩ := gvv_slice (call_args ho hc hl hr x (by simp)) hxv; ⟨_, _, ex⟩⟩
    | nils => rw [hxv] at h; exact ⟨0, h, fun s ρ hr => ⟨_, _, gvv_nils (call_args ho hc hl hr x (by simp)) hxv⟩⟩
    | _ => rw [hxv] at h; exact ft h
  obtain ⟨n, h1, h2⟩ := key
  refine ⟨_, h1, fun s ρ hr => ⟨.int .i64 (Int.ofNat n), rfl, fun w => ?_⟩⟩
  obtain ⟨a, c', e⟩ := h2 s ρ hr
  rw [call_run ho hc hl]
  simp [builtin, Builtin.len_, ht, e, run_underlying hu, goInt]
theorem pure_lens {c : Call} {t : TypeId} {x : Operand} (ho : o.op = .call c) (hc : c.callee = .builtin .len) (hl : c.args.toList = [x]) (ht : c.argTypes[0]? = some t) (hu : P.underlying t = some .string) :
    Pure0 P o d (.lens d (cO x)) := fun cl ih r D H h => by
  have h : onStr (ov (cO x) r) (fun s => forceN (lenF s) (fun n => ih (put d (.int .i64 (Int.ofNat n)) r) D H)) = true := h
  obtain ⟨b, hxv, h⟩ := onStr_iff.1 h
  rw [forceN_eq, lenF_eq] at h
  refine ⟨_, h, fun s ρ hr => ⟨.int .i64 (Int.ofNat b.length), rfl, fun w => ?_⟩⟩
  have e := (gvv_str (call_args ho hc hl hr x (by simp)) hxv).2
  rw [call_run ho hc hl]
  simp [builtin, Builtin.len_, ht, e, strV, run_underlying hu, goInt, strB_size]
theorem pure_cap {c : Call} {t e : TypeId} {x : Operand} (ho : o.op = .call c) (hc : c.callee = .builtin .cap) (hl : c.args.toList = [x]) (ht : c.argTypes[0]? = some t) (hu : P.underlying t = some (.slice e)) :
    Pure0 P o d (.cap d (cO x)) := fun cl ih r D H h => by
  have h : capA (ov (cO x) r) (fun n => ih (put d (.int .i64 (Int.ofNat n)) r) D H) = true := h
  have key : ∃ n, ih (put d (.int .i64 (Int.ofNat n)) r) D H = true ∧ ∀ s ρ, OpR s r ρ o → ∃ a m, ρ x = .slice a m n := by
    cases hxv : ov (cO x) r with
    | slice i off len q cap =>
      rw [hxv] at h
      obtain ⟨e, h⟩ := chk_iff.1 (show chk (Nat.beq q 0) _ = true from h)
      rw [Nat.beq_eq] at e
      refine ⟨cap, h, fun s ρ hr => ?_⟩
      obtain ⟨_, c', _, ex, hc'⟩ := gvv_slice (call_args ho hc hl hr x (by simp)) hxv
      obtain ⟨_, rfl⟩ := hc'.resolve_right (fun e' => by omega)
      exact ⟨_, _, ex⟩
    | nils => rw [hxv] at h; exact ⟨0, h, fun s ρ hr => ⟨_, _, gvv_nils (call_args ho hc hl hr x (by simp)) hxv⟩⟩
    | _ => rw [hxv] at h; exact ft h
  obtain ⟨n, h1, h2⟩ := key
  refine ⟨_, h1, fun s ρ hr => ⟨.int .i64 (Int.ofNat n), rfl, fun w => ?_⟩⟩
  obtain ⟨a, m, e⟩ := h2 s ρ hr
  rw [call_run ho hc hl]
  simp [builtin, Builtin.cap_, ht, e, run_underlying hu, goInt]
theorem pure_usd {c : Call} {x : Operand} (ho : o.op = .call c) (hc : c.callee = .builtin .unsafeSliceData) (hl : c.args.toList = [x]) : Pure0 P o d (.usd d (cO x)) := fun cl ih r D H h => by
  have h : onSlice (ov (cO x) r) (fun i off len q cap => chk (andF (notF (Nat.beq len 0)) (orF (notF (Nat.beq q 0)) (notF (Nat.beq cap 0)))) (ih (put d (.ptr i off) r) D H)) = true := h
  obtain ⟨i, off, len, q, cap, hxv, h⟩ := onSlice_iff.1 h
  obtain ⟨e, h⟩ := chk_iff.1 h
  rw [andF_iff, notF_eq, Bool.not_eq_true', orF_eq, notF_eq, notF_eq, Bool.or_eq_true, Bool.not_eq_true', Bool.not_eq_true'] at e
  have nz : ∀ {n : Nat}, Nat.beq n 0 = false → n ≠ 0 := fun e e' => by rw [e', Nat.beq_refl] at e; cases e
  have e1 := nz e.1
  refine ⟨_, h, fun s ρ hr => ?_⟩
  obtain ⟨L, c', hL, ex, hc'⟩ := gvv_slice (call_args ho hc hl hr x (by simp)) hxv
  refine ⟨_, by simp only [gv, hL, Option.map_some]; rfl, fun w => ?_⟩
  have hz : c' ≠ 0 := by
    rcases hc' with ⟨rfl, rfl⟩ | ⟨_, _, h1, rfl⟩
    · rcases e.2 with e2 | e2
      · exact absurd rfl (nz e2)
      · exact nz e2
    · omega
  rw [call_run ho hc hl]
  obtain ⟨z, ez⟩ : ∃ z, Builtin.unsafeSliceData_ c.argTypes o.type #[.slice (some ⟨L.b, L.base + off, none⟩) len c'] = if c' ≠ 0 then pure (.pointer (some ⟨L.b, L.base + off, none⟩)) else z := ⟨_, rfl⟩
  simp only [builtin, List.map_cons, List.map_nil, ex, ez, Sem.run_bind, if_pos hz, Sem.run_pure, Result.andThen_ok]
end
end Go.Xe
