/- Iterators, and what turns slices. -/
import Derived.Test.YtphdffebnjekdaaGreatXeC2
namespace Go.Xe
open Go
section
variable {P : Program} {cl : CallT} {o : Oper} {d : Dst} {s : Pl} {ρ : Operand → Value} {r : Regs} {x : XO}
theorem nxs_full {x : Operand} (ho : o.op = .next x true) : Full P cl o d (.nxs d (cO x)) := fun ih r D H h => by
  have h : onPtr (ov (cO x) r) (fun i off => onSome (hget H i) (fun b => bSiter b (fun t pos => chk (Nat.beq off 0) (ifB (Nat.blt pos (lenF t)) (forceN (Nat.add pos (decU t pos).2) (fun q => ih (put d (.tuple [.bool true, .int .i64 (Int.ofNat pos), .int .i32 (Int.ofNat (decU t pos).1)]) r) D (hset H i (some (.siter t q))))) (ih (put d (.tuple [.bool false]) r) D H))))) = true := h
  obtain ⟨i, off, h1, h⟩ := onPtr_iff.1 h
  obtain ⟨b, h2, h⟩ := onSome_iff.1 h
  obtain ⟨t, pos, rfl, h⟩ := bSiter_iff.1 h
  obtain ⟨h0, h⟩ := chk_iff.1 h
  rw [Nat.beq_eq] at h0
  rw [lenF_eq] at h
  rcases ifB_iff.1 h with ⟨h3, h⟩ | ⟨h3, h⟩
  · rw [Nat.blt_eq] at h3
    rw [forceN_eq] at h
    refine ⟨_, D, _, h, fun ro s w ac Q hR hO hD => ?_⟩
    obtain ⟨L, hL, ex⟩ := gvv_ptr (hO x (by rw [ho]; simp [Op.operands])) h1
    obtain ⟨e0, e1, e2⟩ := hR.at h2 hL
    rw [e0, h0] at ex
    refine wpIn_run (fun c => by rw [ho]; simp) (u := .tuple #[.bool true, goInt pos, .int .i32 (decU t pos).1]) ?_ ⟨_, s, ac.defers, rfl, rfl, obj_ev hR h2 hL e2 ⟨e0, e1, rfl⟩, hD⟩
    simp only [execOp, ho, ex, Instr.next, Sem.run_bind, run_getObj e2 (fun _ _ _ => by simp), Result.andThen_ok, strB_size, h3, if_true]
    rw [run_setObj e2 (fun _ _ _ => by simp)]
    rfl
  · have h3 : ¬ pos < t.length := fun e => by rw [← Nat.blt_eq, h3] at e; cases e
    refine ⟨_, D, _, h, fun ro s w ac Q hR hO hD => ?_⟩
    obtain ⟨L, hL, ex⟩ := gvv_ptr (hO x (by rw [ho]; simp [Op.operands])) h1
    obtain ⟨e0, e1, e2⟩ := hR.at h2 hL
    rw [e0, h0] at ex
    refine wpIn_run (fun c => by rw [ho]; simp) (w' := w) (u := .tuple #[.bool false]) ?_ ⟨_, s, ac.defers, rfl, rfl, .refl hR, hD⟩
    simp only [execOp, ho, ex, Instr.next, Sem.run_bind, run_getObj e2 (fun _ _ _ => by simp), Result.andThen_ok, strB_size, h3, if_false, Sem.run_pure]
theorem hasN_eq (n : Nat) : ∀ l : List Nat, hasN n l = l.contains n
  | [] => rfl
  | a :: l => by
    show orF (Nat.beq a n) (hasN n l) = _
    rw [orF_eq, hasN_eq n l, List.contains_cons]
    congr 1
    rw [Bool.eq_iff_iff, Nat.beq_eq, beq_iff_eq]
    exact eq_comm
theorem unseen_eq (seen : List Nat) : ∀ es : List (AV × AV × Nat), unseen seen es = es.filter fun e => !seen.contains e.2.2
  | [] => rfl
  | e :: es => by
    show @Bool.rec (fun _ => List (AV × AV × Nat)) (e :: unseen seen es) (unseen seen es) (hasN e.2.2 seen) = _
    rw [hasN_eq, unseen_eq seen es, List.filter_cons]
    cases seen.contains e.2.2 <;> rfl
theorem allGe_eq (n : Nat) : ∀ es : List (AV × AV × Nat), allGe n es = es.all fun e => decide (n ≤ e.2.2)
  | [] => rfl
  | e :: es => by
    show andF (Nat.ble n e.2.2) (allGe n es) = _
    rw [andF_eq, allGe_eq n es, List.all_cons]
    congr 1
    rw [Bool.eq_iff_iff, Nat.ble_eq, decide_eq_true_eq]
theorem EntRel.filter (p : Nat → Bool) : ∀ {es : List (AV × AV × Nat)} {ms : List MapEntry}, EntRel s es ms → EntRel s (es.filter fun e => p e.2.2) (ms.filter fun m => p m.born)
  | [], [], _ => trivial
  | e :: es, m :: ms, ⟨a, b, c, h⟩ => by
    have ih := EntRel.filter p h
    simp only [List.filter_cons, c]
    cases p m.born with
    | true => exact ⟨a, b, c, ih⟩
    | false => exact ih
  | [], _ :: _, h => h.elim
  | _ :: _, [], h => h.elim
theorem EntRel.all (p : Nat → Bool) : ∀ {es : List (AV × AV × Nat)} {ms : List MapEntry}, EntRel s es ms → (es.all fun e => p e.2.2) = ms.all fun m => p m.born
  | [], [], _ => rfl
  | e :: es, m :: ms, ⟨_, _, c, h⟩ => by simp only [List.all_cons, c, EntRel.all p h]
  | [], _ :: _, h => h.elim
  | _ :: _, [], h => h.elim
theorem nxm_full {x : Operand} (ho : o.op = .next x false) : Full P cl o d (.nxm d (cO x)) := fun ih r D H h => by
  have h : onPtr (ov (cO x) r) (fun i off => onSome (hget H i) (fun b => bIter b (fun m since seen last => chk (Nat.beq off 0) (atMap m H (fun es c => chk (orF (empN seen) (orF (isEmp es) (notF (allGe last es)))) (one (unseen seen es) (ih (put d (.tuple [.bool false]) r) D H) (fun e => chk (Nat.blt e.2.2 since) (ih (put d (.tuple [.bool true, e.1, e.2.1]) r) D (hset H i (some (.iter m since (app seen [e.2.2]) c))))))))))) = true := h
  obtain ⟨i, off, h1, h⟩ := onPtr_iff.1 h
  obtain ⟨b, h2, h⟩ := onSome_iff.1 h
  obtain ⟨m, since, seen, last, rfl, h⟩ := bIter_iff.1 h
  obtain ⟨h0, h⟩ := chk_iff.1 h
  rw [Nat.beq_eq] at h0
  obtain ⟨es, c, h3, h⟩ := atMap_iff.1 h
  obtain ⟨h4, h⟩ := chk_iff.1 h
  rw [unseen_eq] at h
  -- the model's own look
  have look : ∀ (s : Pl) (w : World) (ms : Array MapEntry), EntRel s es ms.toList → (!seen.toArray.isEmpty && !ms.isEmpty && ms.all (fun e => decide (e.born ≥ last))) = false := fun s w ms he => by
    rw [orF_eq, orF_eq, notF_eq, allGe_eq, isEmp_ent he, he.all (fun n => decide (last ≤ n))] at h4
    have e1 : empN seen = seen.toArray.isEmpty := by cases seen <;> rfl
    rw [e1] at h4
    have e2 : (ms.toList.all fun m => decide (last ≤ m.born)) = ms.all (fun e => decide (e.born ≥ last)) := by rw [Array.all_toList]
    rw [e2] at h4
    revert h4
    cases seen.toArray.isEmpty <;> cases ms.isEmpty <;> cases ms.all (fun e => decide (e.born ≥ last)) <;> simp
  have left : ∀ (s : Pl) (ms : Array MapEntry), EntRel s es ms.toList → EntRel s (es.filter fun e => !seen.contains e.2.2) (ms.filter fun e => !seen.toArray.contains e.born).toList := fun s ms he => by
    have := he.filter (fun n => !seen.contains n)
    rw [Array.toList_filter]
    simpa using this
  cases hl : es.filter fun e => !seen.contains e.2.2 with
  | nil =>
    rw [hl] at h
    refine ⟨_, D, H, h, fun ro s w ac Q hR hO hD => ?_⟩
    obtain ⟨L, hL, ex⟩ := gvv_ptr (hO x (by rw [ho]; simp [Op.operands])) h1
    obtain ⟨e0, M, hM, e1⟩ := hR.at h2 hL
    rw [e0, h0] at ex
    obtain ⟨ms, e2, e3⟩ := hR.at h3 hM
    refine wpIn_run (fun c => by rw [ho]; simp) (w' := w) (u := .tuple #[.bool false]) ?_ ⟨_, s, ac.defers, rfl, rfl, .refl hR, hD⟩
    have hempty : (ms.filter fun e => !seen.toArray.contains e.born) = #[] := by
      have := left s ms e3
      rw [hl] at this
      have := this.length
      apply Array.toList_inj.1
      exact List.length_eq_zero_iff.1 this
    simp only [execOp, ho, ex, Instr.next, Sem.run_bind, run_getObj e1 (fun _ _ _ => by simp), Result.andThen_ok, run_getMap e2, look s w ms e3, hempty]
    simp [run_choose, Question.forced]
  | cons e rest =>
    rw [hl] at h
    obtain ⟨h5, h⟩ := chk_iff.1 (show chk (isEmp rest) (chk (Nat.blt e.2.2 since) (ih (put d (.tuple [.bool true, e.1, e.2.1]) r) D (hset H i (some (.iter m since (app seen [e.2.2]) c))))) = true from h)
    obtain ⟨h6, h⟩ := chk_iff.1 h
    rw [Nat.blt_eq] at h6
    have hr0 : rest = [] := by cases rest with | nil => rfl | cons _ _ => exact ft h5
    rw [hr0] at hl
    refine ⟨_, D, _, h, fun ro s w ac Q hR hO hD => ?_⟩
    obtain ⟨L, hL, ex⟩ := gvv_ptr (hO x (by rw [ho]; simp [Op.operands])) h1
    obtain ⟨e0, M, hM, e1⟩ := hR.at h2 hL
    rw [e0, h0] at ex
    obtain ⟨ms, e2, e3⟩ := hR.at h3 hM
    obtain ⟨q, hq, g1, g2, g3⟩ : ∃ q, (ms.filter fun e => !seen.toArray.contains e.born) = #[q] ∧ gv s e.1 = some q.key ∧ gv s e.2.1 = some q.val ∧ e.2.2 = q.born := by
      have := left s ms e3
      rw [hl] at this
      cases hz : (ms.filter fun e => !seen.toArray.contains e.born).toList with
      | nil => rw [hz] at this; exact this.elim
      | cons q qs =>
        rw [hz] at this
        obtain ⟨a1, a2, a3, a4⟩ := this
        cases qs with
        | nil => exact ⟨q, Array.toList_inj.1 hz, a1, a2, a3⟩
        | cons _ _ => exact a4.elim
    have hb : BlkRel P s L (.iter m since (app seen [e.2.2]) c) (some (.mapIter (some M.b) since (seen.toArray.push q.born) c)) := ⟨e0, M, hM, by rw [app_eq, g3]; simp⟩
    refine wpIn_run (fun c => by rw [ho]; simp) (u := .tuple #[.bool true, q.key, q.val]) ?_ ⟨_, s, ac.defers, rfl, ?_, obj_ev hR h2 hL e1 hb, hD⟩
    · rw [g3] at h6
      have h7 : ¬ (q.born ≥ since) := by omega
      simp only [execOp, ho, ex, Instr.next, Sem.run_bind, run_getObj e1 (fun _ _ _ => by simp), Result.andThen_ok, run_getMap e2, look s w ms e3, hq]
      simp [run_choose, Question.forced, h6, h7, run_setObj e1 (fun _ _ _ => by simp)]
    · simp only [gv]
      rw [gvs_cons.2 ⟨.bool true, [q.key, q.val], rfl, gvs_cons.2 ⟨q.key, [q.val], g1, gvs_cons.2 ⟨q.val, [], g2, rfl, rfl⟩, rfl⟩, rfl⟩]
theorem lastN_iff {k : Nat → Bool} : ∀ {l : List Nat}, lastN l k = true → ∃ n, l.getLast? = some n ∧ k n = true
  | [], h => ft h
  | [a], h => ⟨a, rfl, h⟩
  | a :: b :: l, h => by
    obtain ⟨n, h1, h2⟩ := lastN_iff (l := b :: l) (show lastN (b :: l) k = true from h)
    exact ⟨n, by rw [List.getLast?_cons_cons]; exact h1, h2⟩
theorem esGet_iff {n : Nat} : ∀ {es : List (AV × AV × Nat)} {k : (AV × AV × Nat) → Bool}, esGet n es k = true → ∃ (i : Nat) (e : AV × AV × Nat), es[i]? = some e ∧ e.2.2 = n ∧ (∀ j e', j < i → es[j]? = some e' → e'.2.2 ≠ n) ∧ k e = true
  | [], _, h => ft h
  | e :: es, k, h => by
    have h : @Bool.rec (fun _ => Bool) (esGet n es k) (k e) (Nat.beq e.2.2 n) = true := h
    cases hb : Nat.beq e.2.2 n with
    | true =>
      rw [hb] at h
      rw [Nat.beq_eq] at hb
      exact ⟨0, e, rfl, hb, fun j _ hj => absurd hj (Nat.not_lt_zero _), h⟩
    | false =>
      rw [hb] at h
      obtain ⟨i, e', h1, h2, h3, h4⟩ := esGet_iff (k := k) h
      refine ⟨i + 1, e', h1, h2, fun j e'' hj hj' => ?_, h4⟩
      cases j with
      | zero =>
        simp only [List.getElem?_cons_zero, Option.some.injEq] at hj'; subst hj'
        exact fun e0 => by rw [e0, Nat.beq_refl] at hb; cases hb
      | succ j => exact h3 j e'' (by omega) hj'
theorem find_ent {n : Nat} {es : List (AV × AV × Nat)} {ms : Array MapEntry} {i : Nat} {e : AV × AV × Nat} (he : EntRel s es ms.toList) (h1 : es[i]? = some e) (h2 : e.2.2 = n) (h3 : ∀ j e', j < i → es[j]? = some e' → e'.2.2 ≠ n) :
    ∃ m, ms.find? (fun e => e.born == n) = some m ∧ gv s e.1 = some m.key ∧ gv s e.2.1 = some m.val := by
  obtain ⟨m, a1, a2, a3, a4⟩ := he.get h1
  refine ⟨m, ?_, a2, a3⟩
  rw [← Array.find?_toList]
  rw [List.find?_eq_some_iff_getElem]
  rw [List.getElem?_eq_some_iff] at a1
  obtain ⟨hlt, a1⟩ := a1
  refine ⟨by rw [← a4, h2]; simp, i, hlt, a1, fun j hj => ?_⟩
  have hjl : j < es.length := by rw [← he.length]; omega
  obtain ⟨m', b1, _, _, b2⟩ := he.get (List.getElem?_eq_getElem hjl)
  rw [List.getElem?_eq_some_iff] at b1
  obtain ⟨_, b1⟩ := b1
  have := h3 j _ hj (List.getElem?_eq_getElem hjl)
  rw [b1, ← b2]
  simpa using this
theorem entry_full {x : Operand} (ho : o.op = .entry x) : Full P cl o d (.entry d (cO x)) := fun ih r D H h => by
  have h : onPtr (ov (cO x) r) (fun i off => onSome (hget H i) (fun b => bIter b (fun m _ seen last => chk (Nat.beq off 0) (lastN seen (fun s => atMap m H (fun es c => chk (Nat.beq c last) (esGet s es (fun e => ih (put d (.tuple [e.1, e.2.1]) r) D H)))))))) = true := h
  obtain ⟨i, off, h1, h⟩ := onPtr_iff.1 h
  obtain ⟨b, h2, h⟩ := onSome_iff.1 h
  obtain ⟨m, since, seen, last, rfl, h⟩ := bIter_iff.1 h
  obtain ⟨h0, h⟩ := chk_iff.1 h
  rw [Nat.beq_eq] at h0
  obtain ⟨st, h3, h⟩ := lastN_iff h
  obtain ⟨es, c, h4, h⟩ := atMap_iff.1 h
  obtain ⟨h5, h⟩ := chk_iff.1 h
  rw [Nat.beq_eq] at h5
  obtain ⟨j, e, g1, g2, g3, h⟩ := esGet_iff h
  refine ⟨_, D, H, h, fun ro s w ac Q hR hO hD => ?_⟩
  obtain ⟨L, hL, ex⟩ := gvv_ptr (hO x (by rw [ho]; simp [Op.operands])) h1
  obtain ⟨e0, M, hM, e1⟩ := hR.at h2 hL
  rw [e0, h0] at ex
  obtain ⟨ms, e2, e3⟩ := hR.at h4 hM
  obtain ⟨q, f1, f2, f3⟩ := find_ent e3 g1 g2 g3
  refine wpIn_run (fun c => by rw [ho]; simp) (w' := w) (u := .tuple #[q.key, q.val]) ?_ ⟨_, s, ac.defers, rfl, ?_, .refl hR, hD⟩
  · have hb : seen.toArray.back? = some st := by rw [← h3]; simp
    simp only [execOp, ho, ex, Instr.entry, Sem.run_bind, run_getObj e1 (fun _ _ _ => by simp), Result.andThen_ok, hb, run_getMap e2, h5, bne_self_eq_false, Bool.false_eq_true, if_false, f1, Sem.run_pure]
  · simp only [gv]
    rw [gvs_cons.2 ⟨q.key, [q.val], f2, gvs_cons.2 ⟨q.val, [], f3, rfl, rfl⟩, rfl⟩]
end
end Go.Xe
