/- A range over a function. -/
import Derived.Test.YtphdffebnjekdaaGreatXeJ
import Derived.ControlIn
namespace Go.Xe
open Go
section
variable {P : Program} {cl : CallT} {n : Nat}
theorem run_newObj' (o : Obj) (w : World) : (newObj o).run P w = .ok w.heap.size (w.alloc o) := by
  simp [newObj, Sem.run]
theorem run_endLoop {w : World} {l : Nat} {lp : Loop} (h : w.heap[l]? = some (.loop lp)) (hb : isBusy lp.state = false) : (Instr.endLoop l).run P w = .ok lp.pending { w with heap := w.heap.setIfInBounds l (.loop { lp with state := .exhausted }) } := by
  have h1 : (setObj l (.loop { lp with state := .exhausted })).run P w = .ok () { w with heap := w.heap.setIfInBounds l (.loop { lp with state := .exhausted }) } := by
    simp [setObj, Sem.run, h]
  have hne : ¬ lp.state = .busy := fun e => by rw [e] at hb; cases hb
  unfold Instr.endLoop Instr.getLoop
  simp [Sem.run_bind, run_getObj, h, h1, hne]
theorem rangeFunc_ok (hcl : CallOK P cl) (hn : n ≤ 256) {g : Operand} {ps : Array Tmp} {asg body : Code} (hok : okC P n (.rangeFunc g ps asg body) = true) : CodeOK P cl n (.rangeFunc g ps asg body) := fun k r D H h => by
  have hok : (okO n g && ps.all (Nat.blt · n) && okC P n asg && okC P n body) = true := hok
  simp only [Bool.and_eq_true] at hok
  obtain ⟨⟨⟨k1, k2⟩, k3⟩, k4⟩ := hok
  cases D with
  | round => exact ft h
  | fn ds =>
    have h : alloc H .dfrs (fun i H => alloc H (.loop .ready .normal r (ps.toList.map cP) (cC P asg) (cC P body)) (fun l H => onFunc (ov (cO g) r) (fun f first cap => cl false (.func f (app first [.yield l]) cap) [] H (fun _ H => afterR l k r (.fn (.mark i :: ds)) H)))) = true := h
    obtain ⟨H1, a1, a2, h⟩ := alloc_iff h
    obtain ⟨H2, b1, b2, h⟩ := alloc_iff h
    obtain ⟨f, first, cap, hg, h⟩ := onFunc_iff.1 h
    obtain ⟨res, H3, h, hc⟩ := hcl _ _ _ _ _ h
    obtain ⟨bb, h3, h⟩ := onSome_iff.1 (show onSome (hget H3 H1.nx) (fun b => bLoop b (fun st pend tr ps asg body => chk (notF (isBusy st)) (k pend r (.fn (.mark H.nx :: ds)) (hset H3 H1.nx (some (.loop .exhausted pend tr ps asg body)))))) = true from h)
    obtain ⟨st, pend, tr, ps', asg', body', rfl, h⟩ := bLoop_iff.1 h
    obtain ⟨h4, h⟩ := chk_iff.1 h
    rw [notF_eq, Bool.not_eq_true'] at h4
    refine ⟨pend, r, .fn (.mark H.nx :: ds), _, h, fun ro s a w hs => ?_⟩
    obtain ⟨rfl, hD⟩ : ro = none ∧ DL s ds a.defers := hs.dfr
    rcases hc with ⟨f', first', cap', e', ⟨fn', hf1, hf2, hf3⟩, hc⟩ | ⟨_, l, e', _⟩
    · cases e'
      obtain ⟨fv, cv, hfv, hcv, eg⟩ := gvv_func (hs.reg.opnd (ds := a.defers) k1) hg
      let L1 : Loc := ⟨w.heap.size, 0, 0, 0⟩
      have hE1 : Ev P s H w (upd s H.nx L1) H1 (w.alloc (.deferred (some []))) := Ev.alloc hs.rel a1 a2 rfl rfl rfl rfl rfl rfl
      refine wpIn_rangeFunc fun fnid _ => ?_
      let lp : Loop := { state := .ready, pending := none, fn := fnid, tmps := a.tmps, params := ps, assign := asg, body := body, defers := w.heap.size }
      let w1 := (w.alloc (.deferred (some []))).alloc (.loop lp)
      have hsz : (w.alloc (.deferred (some []))).heap.size = w.heap.size + 1 := by show (w.heap.push _).size = _; simp
      let L2 : Loc := ⟨w.heap.size + 1, 0, 0, 0⟩
      have hfresh2 := hE1.rel.fresh
      have hE2 : Ev P (upd s H.nx L1) H1 (w.alloc (.deferred (some []))) (upd (upd s H.nx L1) H1.nx L2) H2 w1 :=
        Ev.alloc hE1.rel b1 b2 rfl rfl rfl rfl hsz.symm ⟨lp, rfl, rfl, rfl, rfl, rfl, rfl, n, hn, hs.reg.mono (hE1.mono.trans (upd_le hfresh2)), fun p hp => by
          have := Array.all_eq_true_iff_forall_mem.1 k2 p hp
          rwa [Nat.blt_eq] at this, k3, k4⟩
      have hE12 := hE1.trans hE2
      have hy : gv (upd (upd s H.nx L1) H1.nx L2) (.yield H1.nx) = some (.func (.yield (w.heap.size + 1)) #[] #[]) := by
        simp only [gv, upd_self, Option.map_some]; rfl
      have hvs : gvs (upd (upd s H.nx L1) H1.nx L2) (app first [.yield H1.nx] ++ ([] ++ cap)) = some ((fv ++ [.func (.yield (w.heap.size + 1)) #[] #[]]) ++ ([] ++ cv)) := by
        rw [app_eq]
        exact gvs_append (gvs_append (gvs_mono hE12.mono hfv) (gvs_cons.2 ⟨_, [], hy, rfl, rfl⟩)) (gvs_append rfl (gvs_mono hE12.mono hcv))
      have hcall := (hc _ w1 _ hE2.rel hvs).1 none
      refine ⟨w.heap.size + 1, [{ target := .collected w.heap.size, args := #[] }], w1, { target := .fn (.func f.toNat) cv.toArray, args := fv.toArray ++ #[.func (.yield (w.heap.size + 1)) #[] #[]] }, w1, f.toNat, _, w1, ?_, ?_, fun _ _ => trivial, ?_, fun e => by simp [fz] at e, hcall.mono fun e w' hr => ?_⟩
      · show (Instr.enterLoop fnid a.tmps ps asg body none).run P w = _
        unfold Instr.enterLoop
        simp only [Sem.run_bind, run_newObj', Result.andThen_ok, Sem.run_pure, hsz]
        rfl
      · have ey : Array.map a.eval #[Operand.const (Value.func (Fn.yield (w.heap.size + 1)) #[] #[])] = #[.func (.yield (w.heap.size + 1)) #[] #[]] := by
          simp [Act.eval]
        have eg' : a.eval g = .func (.func f.toNat) fv.toArray cv.toArray := eg
        simp only [resolve, rangeCall, eg', ey, Deferred.ofValue, Sem.run_bind, Sem.run_pure, Result.andThen_ok]
      · show (callFunc f.toNat ((fv.toArray ++ #[.func (.yield (w.heap.size + 1)) #[] #[]]) ++ cv.toArray)).run P w1 = _
        rw [run_callFunc hf1 hf2 hf3]
        simp
      · obtain ⟨u, s3, rfl, _, hE3⟩ := hr
        have hL : s3 H1.nx = some L2 := hE3.mono _ _ (upd_self ..)
        have hat := hE3.rel.at h3 hL
        obtain ⟨lp', c1, c2, c3, c4, c5, c6, c7⟩ := id hat
        have c1 : w'.heap[w.heap.size + 1]? = some (.loop lp') := c1
        have hlt : w.heap.size + 1 < w'.heap.size := by
          rcases Nat.lt_or_ge (w.heap.size + 1) w'.heap.size with h | h
          · exact h
          · rw [Array.getElem?_eq_none h] at c1; cases c1
        have hE4 : Ev P s3 H3 w' s3 (hset H3 H1.nx (some (.loop .exhausted pend tr ps' asg' body'))) { w' with heap := w'.heap.setIfInBounds (w.heap.size + 1) (.loop { lp' with state := .exhausted }) } :=
          Ev.set hE3.rel h3 hL ⟨rfl, rfl, rfl, by simp, fun k _ hk => Array.getElem?_setIfInBounds_ne (fun e => hk e.symm)⟩ (by
            have : (w'.heap.setIfInBounds (w.heap.size + 1) (.loop { lp' with state := .exhausted }))[w.heap.size + 1]? = some (.loop { lp' with state := .exhausted }) := by simp [hlt]
            show BlkRel P s3 L2 _ ((w'.heap.setIfInBounds (w.heap.size + 1) (.loop { lp' with state := .exhausted }))[w.heap.size + 1]?)
            rw [this]
            exact ⟨_, rfl, rfl, c3, c4, c5, c6, c7⟩)
        refine ⟨lp'.pending, _, run_endLoop c1 (by rw [c2]; exact h4), ?_⟩
        have hfin := (hE12.trans hE3).trans hE4
        have hpost : Post P n none s H w pend r (.fn (.mark H.nx :: ds)) (hset H3 H1.nx (some (.loop .exhausted pend tr ps' asg' body'))) (exE pend) { a with defers := [{ target := .collected w.heap.size, args := #[] }] ++ a.defers } { w' with heap := w'.heap.setIfInBounds (w.heap.size + 1) (.loop { lp' with state := .exhausted }) } :=
          ⟨rfl, s3, hfin, hfin.rel, hs.reg.mono hfin.mono, rfl, ⟨L1, (hE2.mono.trans hE3.mono) _ _ (upd_self ..), rfl⟩, hD.mono hfin.mono⟩
        rw [c3] at hpost ⊢
        cases pend with
        | normal => exact hpost
        | exit i => exact wpIn_exit hpost
        | ret => exact wpIn_ret hpost
    · cases e'
end
end Go.Xe
