/- Calls; every operation. -/
import Derived.Test.YtphdffebnjekdaaGreatXeC5
namespace Go.Xe
open Go
def Ret (P : Program) (s : Pl) (H : Heap) (w : World) (res : AV) (H' : Heap) (e : Ending) (w' : World) : Prop := ∃ u s', e = .returned u ∧ gv s' res = some u ∧ Ev P s H w s' H' w'
/-- What is asked of the calls that an executor makes. -/
def CallOK (P : Program) (cl : CallT) : Prop := ∀ fl v args H k, cl fl v args H k = true → ∃ res H', k res H' = true ∧
  ((∃ f first cap, v = .func f first cap ∧ (∃ fn, P.funcs[f.toNat]? = some fn ∧ (fn.name == "runtime.NumGoroutine") = false ∧ fn.body.isNone = false) ∧ ∀ s w vs, Rel P s H w → gvs s (first ++ (args ++ cap)) = some vs →
      (∀ ro, CallsIn (fz ro) 0 P f.toNat vs.toArray w (Ret P s H w res H')) ∧ (fl = true → ∀ ro u, CallsDIn (fz ro) 0 P f.toNat vs.toArray u w (fun e u' w' => u' = u ∧ Ret P s H w res H' e w'))) ∨
   (fl = false ∧ ∃ l, v = .yield l ∧ ∀ s w vs L, Rel P s H w → gvs s args = some vs → s l = some L →
      ∃ f tmps asg body, (Instr.yield L.b vs.toArray).run P w = .ok (.round L.b f tmps asg body) w ∧ ∀ ro, RoundIn (fz ro) 0 P L.b f tmps asg body w (Ret P s H w res H')))
section
variable {P : Program} {cl : CallT} {o : Oper} {d : Dst} {s : Pl} {ρ : Operand → Value} {r : Regs} {x : XO}
theorem run_callFunc {f : Nat} {fn : Func} (hf : P.funcs[f]? = some fn) (hn : (fn.name == "runtime.NumGoroutine") = false) (hb : fn.body.isNone = false) (args : Array Value) (w : World) : (callFunc f args).run P w = .ok (.enter f args) w := by
  simp only [callFunc, Sem.run_bind, run_program, Result.andThen_ok, hf, hn, hb, Bool.false_eq_true, if_false, Sem.run_pure]
theorem gvs_append_inv : ∀ {l m : List AV} {vs : List Value}, gvs s (l ++ m) = some vs → ∃ us ws, gvs s l = some us ∧ gvs s m = some ws ∧ vs = us ++ ws
  | [], m, vs, h => ⟨[], vs, rfl, h, rfl⟩
  | a :: l, m, vs, h => by
    obtain ⟨v, us, h1, h2, rfl⟩ := gvs_cons.1 h
    obtain ⟨us', ws, h3, h4, rfl⟩ := gvs_append_inv h2
    exact ⟨v :: us', ws, gvs_cons.2 ⟨v, us', h1, h3, rfl⟩, h4, rfl⟩
theorem upon_enter {ro : Option Nat} {a : Act} {f : Nat} {args : Array Value} {w w' : World} {K : Act → World → Prop} {Q : Exit → Act → World → Prop} {R : Ending → World → Prop} (hd : ∀ c, o.op ≠ .defer c) (h : (execOp a.eval o).run P w = .ok (.enter f args) w')
    (hc : CallsIn (fz ro) 0 P f args w' R) (hR : ∀ e w'', R e w'' → ∃ v, e = .returned v ∧ K (a.put o.dst v) w'') : o.wpIn (fz ro) 0 P a w K Q :=
  ⟨fun _ _ => trivial, by
    rw [Oper.semAt_eq _ _ _ hd, h]
    exact ⟨fun e => by simp [fz] at e, hc.mono fun e w'' he => by obtain ⟨v, rfl, hk⟩ := hR e w'' he; exact hk⟩⟩
theorem upon_round {ro : Option Nat} {a : Act} {l f : Nat} {tmps : Array Value} {asg body : Code} {w w' : World} {K : Act → World → Prop} {Q : Exit → Act → World → Prop} {R : Ending → World → Prop} (hd : ∀ c, o.op ≠ .defer c) (h : (execOp a.eval o).run P w = .ok (.round l f tmps asg body) w')
    (hc : RoundIn (fz ro) 0 P l f tmps asg body w' R) (hR : ∀ e w'', R e w'' → ∃ v, e = .returned v ∧ K (a.put o.dst v) w'') : o.wpIn (fz ro) 0 P a w K Q :=
  ⟨fun _ _ => trivial, by
    rw [Oper.semAt_eq _ _ _ hd, h]
    exact ⟨fun e => by simp [fz] at e, hc.mono fun e w'' he => by obtain ⟨v, rfl, hk⟩ := hR e w'' he; exact hk⟩⟩
theorem callv_ops {c : Call} {f : Operand} (ho : o.op = .call c) (hc : c.callee = .value f) (hr : OpR s r ρ o) : gv s (ov (cO f) r) = some (ρ f) ∧ ∀ y ∈ c.args.toList, gv s (ov (cO y) r) = some (ρ y) := by
  refine ⟨hr f ?_, fun y hy => hr y ?_⟩ <;> rw [ho] <;> show _ ∈ c.operands <;> unfold Call.operands <;> rw [hc]
  · exact Array.mem_append.2 (.inl (by simp))
  · exact Array.mem_append.2 (.inr (by simpa using hy))
theorem arr_append {a b : List Value} : a.toArray ++ b.toArray = (a ++ b).toArray := by simp
theorem callv_full {c : Call} {f : Operand} (hcl : CallOK P cl) (ho : o.op = .call c) (hc : c.callee = .value f) : Full P cl o d (.callv d (cO f) (c.args.toList.map cO)) := fun ih r D H h => by
  have h : cl false (ov (cO f) r) (ovs (c.args.toList.map cO) r) H (fun v H => ih (put d v r) D H) = true := h
  have nodefer : ∀ c, o.op ≠ .defer c := fun c => by rw [ho]; simp
  obtain ⟨res, H', h, hk⟩ := hcl _ _ _ _ _ h
  refine ⟨res, D, H', h, fun ro s w ac Q hR hO hD => ?_⟩
  obtain ⟨gf, ga⟩ := callv_ops ho hc hO
  have gargs := ovs_gvs ga
  have eargs : c.args.map ac.eval = (c.args.toList.map ac.eval).toArray := by rw [← Array.toList_map, Array.toArray_toList]
  have fin : ∀ e w'', Ret P s H w res H' e w'' → ∃ v, e = .returned v ∧ ∃ u s' ds, ac.put o.dst v = ({ ac with defers := ds } : Act).put o.dst u ∧ gv s' res = some u ∧ Ev P s H w s' H' w'' ∧ DRel s' ro D ds := fun e w'' ⟨u, s', e1, e2, e3⟩ =>
    ⟨u, e1, u, s', ac.defers, rfl, e2, e3, hD.mono e3.mono⟩
  rcases hk with ⟨fid, first, cap, e1, ⟨fn, f1, f2, f3⟩, hk⟩ | ⟨_, l, e1, hk⟩
  · rw [e1] at gf
    obtain ⟨xs, ys, g1, g2, ef⟩ := gvv_func gf rfl
    have hvs := gvs_append g1 (gvs_append gargs g2)
    refine upon_enter nodefer (w' := w) ?_ ((hk s w _ hR hvs).1 ro) fin
    simp only [execOp, ho, resolve, hc, ef, Deferred.ofValue, Sem.run_bind, Sem.run_pure, Result.andThen_ok, invoke, eargs]
    rw [run_callFunc f1 f2 f3]
    congr 2
    simp
  · rw [e1] at gf
    simp only [gv, Option.map_eq_some_iff] at gf
    obtain ⟨L, hL, ef⟩ := gf
    obtain ⟨fi, tmps, asg, body, g1, g2⟩ := hk s w _ L hR gargs hL
    refine upon_round nodefer (w' := w) ?_ (g2 ro) fin
    simp only [execOp, ho, resolve, hc, ← ef, Deferred.ofValue, Sem.run_bind, Sem.run_pure, Result.andThen_ok, invoke, eargs]
    simpa using g1
theorem call_full {c : Call} {f : Nat} (hcl : CallOK P cl) (ho : o.op = .call c) (hc : c.callee = .value (.func f)) : Full P cl o d (.call d (Fid.ofNat f) (c.args.toList.map cO)) := by
  have := callv_full (d := d) hcl ho hc
  exact this
theorem func_val {c : Call} {f : Nat} (ho : o.op = .call c) (hc : c.callee = .value (.func f)) (hf : f < 4096) (hr : OpR s r ρ o) : ρ (.func f) = .func (.func f) #[] #[] := by
  obtain ⟨xs, ys, g1, g2, ef⟩ := gvv_func (callv_ops ho hc hr).1 rfl
  rw [gvs_nil] at g1 g2
  subst g1; subst g2
  rw [ef, Fid.toNat_ofNat hf]
theorem gext_full {c : Call} {f : Nat} (ho : o.op = .call c) (hc : c.callee = .value (.func f)) (hf : f < 4096) : Full P cl o d (.gext f d (c.args.toList.map cO)) := Pure0.full (fun c => by rw [ho]; simp) fun cl ih r D H h => by
  have h : gens P (ovs (c.args.toList.map cO) r) (fun vs => callFunc f vs) (fun v => ih (put d v r) D H) = true := h
  obtain ⟨l, h1, v, h2, h⟩ := gens_iff.1 h
  refine ⟨_, h, fun s ρ hr => ⟨v, gv_ofV v, fun w => ?_⟩⟩
  have e := gvs_uniq (ovs_gvs (callv_ops ho hc hr).2) h1
  have e2 : (c.args.map ρ).toList = l := by rw [← e, Array.toList_map]
  have e2 : c.args.map ρ = l.toArray := by rw [← e2]
  have := pureRun_run h2 w
  simp only [execOp, ho, resolve, hc, Sem.run_bind, func_val ho hc hf hr, Deferred.ofValue, Sem.run_pure, Result.andThen_ok, invoke, e2]
  simpa using this
theorem ne_next : Extern.allNextRows.lookup "internal/abi.NoEscape" = none := rfl
theorem ne_next' : Extern.allNextRows.lookup "" = none := rfl
theorem ne_generic : (Extern.allGenericRows.lookup "internal/abi.NoEscape") = none := rfl
theorem ne_typed : (Extern.allTypedRows.lookup "internal/abi.NoEscape") = none := rfl
theorem ne_row : (Extern.allRows.lookup "internal/abi.NoEscape") = some Extern.AbiNoEscape.same := rfl
theorem noesc_full {c : Call} {f : Nat} {fn : Func} {x : Operand} (ho : o.op = .call c) (hc : c.callee = .value (.func f)) (hf : f < 4096) (hl : c.args.toList = [x]) (hfn : P.funcs[f]? = some fn) (hb : fn.body = none) (hn : fn.name = "internal/abi.NoEscape") (horg : fn.origin = "") :
    Full P cl o d (.noesc d (cO x)) := Pure0.full (fun c => by rw [ho]; simp) fun cl ih r D H h => by
  refine ⟨ov (cO x) r, h, fun s ρ hr => ⟨ρ x, (callv_ops ho hc hr).2 x (by rw [hl]; simp), fun w => ?_⟩⟩
  have e2 : c.args.map ρ = #[ρ x] := by
    have : (c.args.map ρ).toList = [ρ x] := by rw [Array.toList_map, hl]; rfl
    exact Array.toList_inj.1 this
  have hne : fn.name ≠ "runtime.NumGoroutine" := by rw [hn]; decide
  have hnext : Extern.findNext fn = none := by simp only [Extern.findNext, hn, horg, ne_next, ne_next']; rfl
  have hfind : Extern.find fn = some Extern.AbiNoEscape.same := by simp only [Extern.find, hn, ne_generic, ne_typed, ne_row]; rfl
  simp only [execOp, ho, resolve, hc, Sem.run_bind, func_val ho hc hf hr, Deferred.ofValue, Sem.run_pure, Result.andThen_ok, invoke, e2]
  have hs : Extern.AbiNoEscape.same #[ρ x] = pure (ρ x) := rfl
  simp [callFunc, hfn, hne, hb, hnext, hfind, mark, Sem.run, hs]
theorem dfr_full {c : Call} {f : Operand} (ho : o.op = .defer c) (hc : c.callee = .value f) : Full P cl o d (.dfr d (cO f) (c.args.toList.map cO)) := fun ih r D H h => by
  have h : onFunc (ov (cO f) r) (fun _ _ _ => pushD D (.call (ov (cO f) r) (ovs (c.args.toList.map cO) r)) (fun D => ih (put d (AV.tuple []) r) D H)) = true := h
  obtain ⟨fid, first, cap, h1, h⟩ := onFunc_iff.1 h
  cases D with
  | round => exact ft h
  | fn ds₀ =>
    have h : ih (put d (AV.tuple []) r) (.fn (.call (ov (cO f) r) (ovs (c.args.toList.map cO) r) :: ds₀)) H = true := h
    refine ⟨_, _, H, h, fun ro s w ac Q hR hO hD => ?_⟩
    obtain ⟨hro, hds⟩ := hD
    subst hro
    have ops : gv s (ov (cO f) r) = some (ac.eval f) ∧ ∀ y ∈ c.args.toList, gv s (ov (cO y) r) = some (ac.eval y) := by
      refine ⟨hO f ?_, fun y hy => hO y ?_⟩ <;> rw [ho] <;> show _ ∈ c.operands <;> unfold Call.operands <;> rw [hc]
      · exact Array.mem_append.2 (.inl (by simp))
      · exact Array.mem_append.2 (.inr (by simpa using hy))
    obtain ⟨gf, ga⟩ := ops
    have gargs := ovs_gvs ga
    have eargs : c.args.map ac.eval = (c.args.toList.map ac.eval).toArray := by rw [← Array.toList_map, Array.toArray_toList]
    rw [h1] at gf
    obtain ⟨xs, ys, g1, g2, ef⟩ := gvv_func gf rfl
    refine ⟨fun _ _ => trivial, ?_⟩
    have hrun : (execOp ac.eval o).run P w = .ok (.defer { target := .fn (.func fid.toNat) ys.toArray, args := (xs ++ c.args.toList.map ac.eval).toArray }) w := by
      simp only [execOp, ho, resolve, hc, ef, Deferred.ofValue, Sem.run_bind, Sem.run_pure, Result.andThen_ok, eargs, arr_append]
    show Oper.uponIn _ _ P o ac _ Q ((o.semAt none ac.eval).run P w)
    rw [Oper.semAt_none, hrun]
    refine ⟨undef, s, _, rfl, rfl, .refl hR, rfl, ⟨⟨fid, first, cap, h1, xs, _, ys, g1, gargs, g2, rfl⟩, hds⟩⟩
theorem no_full : Full P cl o d .no := fun _ _ _ _ h => ft h
end
end Go.Xe
