/- Code; functions; all of it. -/
import Derived.Test.YtphdffebnjekdaaGreatXeR
import Derived.ControlIn
import Derived.DefersIn
namespace Go.Xe
open Go
section
variable {P : Program} {cl : CallT} {n : Nat}
theorem code_ok (hcl : CallOK P cl) (hn : n ≤ 256) (hmix : P.follows .mixedOrders = true) : ∀ c : Code, okC P n c = true → CodeOK P cl n c
  | .skip, _ => fun k r D H h => ⟨.normal, r, D, H, h, fun ro s a w hs => wpIn_skip ⟨rfl, s, .refl hs.rel, hs⟩⟩
  | .label _, _ => fun k r D H h => ⟨.normal, r, D, H, h, fun ro s a w hs => wpIn_label ⟨rfl, s, .refl hs.rel, hs⟩⟩
  | .region _ _ false, hk => region_ok hcl hn hk
  | .region _ _ true, hk => drawn_ok hcl hn hmix hk
  | .seq x y, hk => by
    have hk : (okC P n x && okC P n y) = true := hk
    rw [Bool.and_eq_true] at hk
    exact seq_ok (code_ok hcl hn hmix x hk.1) (code_ok hcl hn hmix y hk.2)
  | .cond c x y, hk => by
    have hk : (okO n c && okC P n x && okC P n y) = true := hk
    rw [Bool.and_eq_true, Bool.and_eq_true] at hk
    exact cond_ok hk.1.1 (code_ok hcl hn hmix x hk.1.2) (code_ok hcl hn hmix y hk.2)
  | .block _ x, hk => block_ok (code_ok hcl hn hmix x hk)
  | .loop x, hk => loop_ok (code_ok hcl hn hmix x hk)
  | .rangeFunc .., hk => rangeFunc_ok hcl hn hk
  | .exit id, _ => fun k r D H h => ⟨.exit id, r, D, H, h, fun ro s a w hs => wpIn_exit ⟨rfl, s, .refl hs.rel, hs⟩⟩
  | .ret, _ => fun k r D H h => ⟨.ret, r, D, H, h, fun ro s a w hs => wpIn_ret ⟨rfl, s, .refl hs.rel, hs⟩⟩
  | .scope _, _ => fun k r D H h => ft h
  | .goto _, _ => fun k r D H h => ft h
  | .refuse _, _ => fun k r D H h => ft h
/-! The results. -/
def resOf (tmps : Array Value) : ResultVar → Sem Value
  | .tmp t => pure (tmps.getD t undef)
  | .cell a t => do loadVar t (← asAddr (tmps.getD a undef))
theorem results_eq (fn : Func) (tmps : Array Value) : results fn tmps = (do
    let vs ← fn.results.mapM (resOf tmps)
    pure (if h : vs.size = 1 then vs[0] else .tuple vs) : Sem Value) := by
  unfold results
  congr 1
theorem run_mapM_list {α β : Type} (f : α → Sem β) (w : World) : ∀ (l : List α) (vs : List β), l.length = vs.length → (∀ (i : Nat) a v, l[i]? = some a → vs[i]? = some v → (f a).run P w = .ok v w) → (l.mapM f : Sem (List β)).run P w = .ok vs w
  | [], [], _, _ => rfl
  | a :: l, v :: vs, hl, h => by
    rw [List.mapM_cons]
    simp only [Sem.run_bind, h 0 a v rfl rfl, Result.andThen_ok, run_mapM_list f w l vs (by simpa using hl) (fun i a v h1 h2 => h (i + 1) a v (by simpa using h1) (by simpa using h2)), Sem.run_pure]
  | [], _ :: _, hl, _ => by simp at hl
  | _ :: _, [], hl, _ => by simp at hl
theorem res1_sound {x : ResultVar} (hx : okR P n x = true) {r : Regs} {H : Heap} {k : AV → Bool} (h : res1 (cR P x) r H k = true) : ∃ v, k v = true ∧
    ∀ s w tmps, Rel P s H w → RegRel s n r tmps → ∃ u, gv s v = some u ∧ (resOf tmps x).run P w = .ok u w := by
  cases x with
  | tmp t =>
    have ht : t < n := by unfold okR at hx; rwa [Nat.blt_eq] at hx
    refine ⟨_, h, fun s w tmps hR hr => ?_⟩
    have ht' : t < tmps.size := by rw [hr.1]; exact ht
    exact ⟨tmps[t], hr.2 t ht', by simp [resOf, Array.getD, ht']⟩
  | cell a t =>
    have hx : (Nat.blt a n && (und P t).isSome && (sz P t).isSome) = true := hx
    simp only [Bool.and_eq_true, Nat.blt_eq] at hx
    obtain ⟨⟨ha, hu⟩, hz⟩ := hx
    obtain ⟨u, hu⟩ := Option.isSome_iff_exists.1 hu
    obtain ⟨m, hz⟩ := Option.isSome_iff_exists.1 hz
    have hu' : P.underlying t = some u := hu
    have h : ldAt (cO (.tmp a)) (match und P t, sz P t with | some u, some m => bif isAggD u then some m else none | _, _ => none) r H k = true := h
    rw [hu, hz] at h
    have h : ldAt (cO (.tmp a)) (bif isAggD u then some m else none) r H k = true := h
    have get : ∀ {s : Pl} {tmps : Array Value}, RegRel s n r tmps → gv s (ov (cO (.tmp a)) r) = some (tmps.getD a undef) := fun {s tmps} hr => by
      have ht' : a < tmps.size := by rw [hr.1]; exact ha
      show gv s (rget (cP a).1 (cP a).2 r) = _
      rw [hr.2 a ht']; simp [Array.getD, ht']
    cases hg : isAggD u with
    | false =>
      rw [hg] at h
      obtain ⟨i, off, ex, e, l, v, h1, h2, h3, h⟩ := ldAt_none h
      refine ⟨v, h, fun s w tmps hR hr => ?_⟩
      obtain ⟨L, hL, ea⟩ := gvv_ptr (get hr) h1
      obtain ⟨y, cs, f, e1, e2, e3⟩ := rel_cell (hR.at h2 hL) h3
      refine ⟨y, e1, ?_⟩
      simp only [resOf, ea, asAddr, Sem.run_bind, Sem.run_pure, Result.andThen_ok, loadVar, run_isAgg hu', hg, Bool.false_eq_true, if_false, run_load_at e2 e3]
    | true =>
      rw [hg] at h
      obtain ⟨i, off, ex, e, l, h1, h2, h3, h⟩ := ldAt_some h
      refine ⟨_, h, fun s w tmps hR hr => ?_⟩
      obtain ⟨L, hL, ea⟩ := gvv_ptr (get hr) h1
      obtain ⟨vs, cs, f, e1, e2, e3, e4⟩ := rel_cells (hR.at h2 hL) off m h3
      refine ⟨.agg vs.toArray, by simp only [gv]; rw [e1], ?_⟩
      have := run_loadCells_at (P := P) e3 e4
      rw [e2] at this
      simp only [resOf, ea, asAddr, Sem.run_bind, Sem.run_pure, Result.andThen_ok, loadVar, run_isAgg hu', hg, if_true, run_sizeOf hz, this]
theorem resL_sound {r : Regs} {H : Heap} : ∀ (l : List ResultVar) {k : List AV → Bool}, l.all (okR P n) = true → resL (l.map (cR P)) r H k = true → ∃ vs, k vs = true ∧
    ∀ s w tmps, Rel P s H w → RegRel s n r tmps → ∃ us, gvs s vs = some us ∧ us.length = l.length ∧ ∀ (i : Nat) x u, l[i]? = some x → us[i]? = some u → (resOf tmps x).run P w = .ok u w
  | [], k, _, h => ⟨[], h, fun s w tmps _ _ => ⟨[], rfl, rfl, fun i x u e => by simp at e⟩⟩
  | x :: l, k, hx, h => by
    rw [List.all_cons, Bool.and_eq_true] at hx
    have h : res1 (cR P x) r H (fun v => resL (l.map (cR P)) r H (fun l => k (v :: l))) = true := h
    obtain ⟨v, h1, h2⟩ := res1_sound hx.1 h
    obtain ⟨vs, h3, h4⟩ := resL_sound l hx.2 h1
    refine ⟨v :: vs, h3, fun s w tmps hR hr => ?_⟩
    obtain ⟨u, a1, a2⟩ := h2 s w tmps hR hr
    obtain ⟨us, b1, b2, b3⟩ := h4 s w tmps hR hr
    refine ⟨u :: us, gvs_cons.2 ⟨u, us, a1, b1, rfl⟩, by simp [b2], fun i y z e1 e2 => ?_⟩
    cases i with
    | zero =>
      simp only [List.getElem?_cons_zero, Option.some.injEq] at e1 e2
      subst e1; subst e2; exact a2
    | succ i => exact b3 i y z (by simpa using e1) (by simpa using e2)
theorem results_sound {fn : Func} {r : Regs} {H : Heap} {k : AV → Bool} (hx : fn.results.toList.all (okR P n) = true) (h : resL (fn.results.toList.map (cR P)) r H (fun l => k (resV l)) = true) : ∃ v, k v = true ∧
    ∀ s w tmps, Rel P s H w → RegRel s n r tmps → ∃ u, gv s v = some u ∧ (results fn tmps).run P w = .ok u w := by
  obtain ⟨vs, h1, h2⟩ := resL_sound fn.results.toList (k := fun l => k (resV l)) hx h
  refine ⟨_, h1, fun s w tmps hR hr => ?_⟩
  obtain ⟨us, e1, e2, e3⟩ := h2 s w tmps hR hr
  refine ⟨if h : us.toArray.size = 1 then us.toArray[0] else .tuple us.toArray, ?_, ?_⟩
  · have hl := gvs_length e1
    match vs, us, e1, hl with
    | [], [], _, _ => rfl
    | [a], [u], e1, _ =>
      obtain ⟨v, us', h3, h4, h5⟩ := gvs_cons.1 e1
      cases h5
      show gv s a = some _
      rw [h3]; rfl
    | a :: b :: l, u :: u' :: us, e1, _ =>
      show gv s (.tuple (a :: b :: l)) = _
      simp only [gv]
      rw [e1, dif_neg (by simp)]
  · rw [results_eq]
    simp only [Array.mapM_eq_mapM_toList, Sem.run_bind, Sem.run_map]
    rw [run_mapM_list _ w fn.results.toList us e2.symm e3]
    rfl
end
end Go.Xe
