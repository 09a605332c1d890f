/- Functions; the levels; all of it. -/
import Derived.Test.YtphdffebnjekdaaGreatXeL
import Derived.RangeFuncLeaves
import Derived.Below
namespace Go.Xe
open Go
section
variable {P : Program} {cl : CallT} {n : Nat}
theorem putA_range {k : Regs → Bool} : ∀ (l j : Nat) (args : List AV) (r : Regs), j + l ≤ 256 → putA ((List.range' j l).map cP) args r k = true → ∃ r', k r' = true ∧ args.length = l ∧
    (∀ (x : Nat) a, args[x]? = some a → rget (cP (j + x)).1 (cP (j + x)).2 r' = a) ∧ ∀ x, x < 256 → (x < j ∨ j + l ≤ x) → rget (cP x).1 (cP x).2 r' = rget (cP x).1 (cP x).2 r
  | 0, j, args, r, _, h => by
    cases args with
    | nil => exact ⟨r, h, rfl, fun x a e => by simp at e, fun x _ _ => rfl⟩
    | cons a l => exact ft h
  | l + 1, j, args, r, hj, h => by
    cases args with
    | nil => exact ft h
    | cons a as =>
      rw [List.range'_succ] at h
      have h : putA ((List.range' (j + 1) l).map cP) as (rset (cP j).1 (cP j).2 a r) k = true := h
      obtain ⟨r', h1, h2, h3, h4⟩ := putA_range l (j + 1) as _ (by omega) h
      refine ⟨r', h1, by simp [h2], fun x b e => ?_, fun x hx hx' => ?_⟩
      · cases x with
        | zero =>
          simp only [List.getElem?_cons_zero, Option.some.injEq] at e
          subst e
          rw [Nat.add_zero, h4 j (by omega) (.inl (by omega)), rget_rset, if_pos ⟨rfl, rfl⟩]
        | succ x =>
          have := h3 x b (by simpa using e)
          rwa [show j + 1 + x = j + (x + 1) by omega] at this
      · rw [h4 x hx (by omega), rget_rset, if_neg]
        intro e
        have := cP_inj hx (by omega) (Prod.ext e.1 e.2)
        omega
theorem rget_undef (a b : D) : rget a b undefR = .tuple [] := by
  show gD b (gD a (fillN (fillN _))) = _
  rw [gD_fillN, gD_fillN]
/-- A function's first slots. -/
theorem enter_regs {m n : Nat} {args : List AV} {k : Regs → Bool} (hm : m ≤ n) (hn : n ≤ 256) (h : putA ((List.range m).map cP) args undefR k = true) : ∃ r, k r = true ∧
    ∀ s (vs : List Value), gvs s args = some vs → RegRel s n r (vs.toArray ++ Array.replicate (n - vs.toArray.size) undef) := by
  rw [List.range_eq_range'] at h
  obtain ⟨r, h1, h2, h3, h4⟩ := putA_range m 0 args undefR (by omega) h
  refine ⟨r, h1, fun s vs hvs => ?_⟩
  have hl := gvs_length hvs
  have hsz : (vs.toArray ++ Array.replicate (n - vs.toArray.size) undef).size = n := by simp; omega
  refine ⟨hsz, fun x hx => ?_⟩
  have hx' : x < n := by rw [hsz] at hx; exact hx
  by_cases e : x < vs.length
  · obtain ⟨a, e1, e2⟩ := gvs_get' hvs (List.getElem?_eq_getElem e)
    have := h3 x a e1
    rw [Nat.zero_add] at this
    rw [this, e2]
    simp [e]
  · rw [h4 x (by omega) (.inr (by omega)), rget_undef]
    simp [Array.getElem_append, e]
    rfl
theorem run_takeDeferred {w : World} {b : Nat} (h : w.heap[b]? = some (.deferred (some []))) : (Instr.takeDeferred b).run P w = .ok [] { w with heap := w.heap.setIfInBounds b (.deferred none) } := by
  have h1 : (setObj b (.deferred none)).run P w = .ok () { w with heap := w.heap.setIfInBounds b (.deferred none) } := by
    simp [setObj, Sem.run, h]
  unfold Instr.takeDeferred
  simp [Sem.run_bind, run_getObj, h, h1]
/-- What was deferred, run. -/
theorem unw_sound (hcl : CallOK P cl) : ∀ (ds : List DE) (H : Heap) (k : Heap → Bool), unw ds cl H k = true → ∃ H', k H' = true ∧
    ∀ (s : Pl) (w : World) (rds : List Deferred) (fn : Func) (tmps : Array Value) (R : Ending → World → Prop), Rel P s H w → DL s ds rds →
      (∀ s' w', Ev P s H w s' H' w' → LeavesInM (fz none) 0 P fn tmps R [] .returning w') → LeavesInM (fz none) 0 P fn tmps R rds .returning w
  | [], H, k, h => ⟨H, h, fun s w rds fn tmps R hR hD hq => by
    cases rds with
    | nil => exact hq s w (.refl hR)
    | cons => exact hD.elim⟩
  | .call v args :: ds, H, k, h => by
    have h : cl true v args H (fun _ H => unw ds cl H k) = true := h
    obtain ⟨res, H1, h1, h2⟩ := hcl _ _ _ _ _ h
    obtain ⟨H', h3, h4⟩ := unw_sound hcl ds H1 k h1
    refine ⟨H', h3, fun s w rds fn tmps R hR hD hq => ?_⟩
    match rds, hD with
    | d :: rds, hD =>
    obtain ⟨⟨f, first, cap, e, fv, av, cv, a1, a2, a3, a4⟩, hD⟩ := hD
    rcases h2 with ⟨f', first', cap', e', hfn, h2⟩ | ⟨e', _⟩
    · rw [e] at e'
      cases e'
      obtain ⟨fn', hf1, hf2, hf3⟩ := hfn
      obtain ⟨_, h5⟩ := h2 s w (fv ++ (av ++ cv)) hR (gvs_append a1 (gvs_append a2 a3))
      refine ⟨by simp, .inr ⟨fun e => by simp [fz] at e, .func f.toNat, cv.toArray, f.toNat, (fv ++ (av ++ cv)).toArray, by rw [a4], ?_, fun _ _ => trivial, ?_⟩⟩
      · subst a4
        show (callFunc f.toNat ((fv ++ av).toArray ++ cv.toArray)).run P w = _
        rw [run_callFunc hf1 hf2 hf3]
        simp
      · refine CallsDIn.mono (h5 rfl none .returning) fun e u' w' hh => ?_
        obtain ⟨rfl, u, s', rfl, _, hE⟩ := hh
        exact h4 s' w' rds fn tmps R hE.rel (hD.mono hE.mono) fun s2 w2 hE2 => hq s2 w2 (hE.trans hE2)
    · cases e'
  | .mark b :: ds, H, k, h => by
    obtain ⟨x, h1, h⟩ := onSome_iff.1 (show onSome (hget H b) (fun x => isDfrs x (unw ds cl (hset H b none) k)) = true from h)
    have hx : x = .dfrs ∧ unw ds cl (hset H b none) k = true := by
      cases x with
      | dfrs => exact ⟨rfl, h⟩
      | _ => exact ft h
    obtain ⟨rfl, h⟩ := hx
    obtain ⟨H', h3, h4⟩ := unw_sound hcl ds _ k h
    refine ⟨H', h3, fun s w rds fn tmps R hR hD hq => ?_⟩
    match rds, hD with
    | d :: rds, hD =>
    obtain ⟨⟨L, hL, a4⟩, hD⟩ := hD
    have hb : w.heap[L.b]? = some (.deferred (some [])) := hR.at h1 hL
    have hE : Ev P s H w s (hset H b none) { w with heap := w.heap.setIfInBounds L.b (.deferred none) } := Ev.dropSet hR h1 hL ⟨rfl, rfl, rfl, by simp, fun k _ hk => Array.getElem?_setIfInBounds_ne (fun e => hk e.symm)⟩
    refine ⟨by simp, .inl ⟨L.b, _, by rw [a4], run_takeDeferred hb, ?_⟩⟩
    exact h4 s _ rds fn tmps R hE.rel hD fun s2 w2 hE2 => hq s2 w2 (hE.trans hE2)
/-- A function. -/
theorem runFn_ok (hcl : CallOK P cl) (hmix : P.follows .mixedOrders = true) {f : Nat} {fn : Func} {xf : XFn} (hf : P.funcs[f]? = some fn) (hx : cF P fn = some xf) (hok : okF P fn = true) {fl : Bool} {args : List AV} {H : Heap} {k : AV → Heap → Bool}
    (h : runFn P xf fl cl args H k = true) : ∃ res H', k res H' = true ∧ ∀ s w vs, Rel P s H w → gvs s args = some vs →
      (∀ ro, CallsIn (fz ro) 0 P f vs.toArray w (Ret P s H w res H')) ∧ (fl = true → ∀ ro u, CallsDIn (fz ro) 0 P f vs.toArray u w (fun e u' w' => u' = u ∧ Ret P s H w res H' e w')) := by
  unfold cF at hx
  cases hb : fn.body with
  | none => rw [hb] at hx; cases hx
  | some body =>
    rw [hb] at hx
    cases hx
    unfold okF at hok
    rw [hb] at hok
    simp only [Bool.and_eq_true] at hok
    obtain ⟨⟨⟨o1, o2⟩, o3⟩, o4⟩ := hok
    have o1 := Nat.le_of_ble_eq_true o1
    have o2 := Nat.le_of_ble_eq_true o2
    obtain ⟨r, h1, hreg⟩ := enter_regs o1 o2 h
    obtain ⟨e, r', D', H1, h2, h3⟩ := code_ok hcl o2 hmix body o4 _ r (.fn []) H h1
    have h2 : endE e (onFn D' (fun ds => chk (orF (notF fl) (isNilD ds)) (unw ds cl H1 (fun H => resL (fn.results.toList.map (cR P)) r' H (fun l => k (resV l) H))))) = true := h2
    have he : (e = .normal ∨ e = .ret) ∧ onFn D' (fun ds => chk (orF (notF fl) (isNilD ds)) (unw ds cl H1 (fun H => resL (fn.results.toList.map (cR P)) r' H (fun l => k (resV l) H)))) = true := by
      cases e with
      | normal => exact ⟨.inl rfl, h2⟩
      | ret => exact ⟨.inr rfl, h2⟩
      | exit i => exact ft h2
    obtain ⟨he, h4⟩ := he
    cases D' with
    | round => exact ft h4
    | fn ds =>
      obtain ⟨h5, h6⟩ := chk_iff.1 (show chk _ _ = true from h4)
      obtain ⟨H', h7, h8⟩ := unw_sound hcl ds H1 _ h6
      obtain ⟨res, h9, h10⟩ := results_sound (k := fun v => k v H') o3 h7
      refine ⟨res, H', h9, fun s w vs hR hvs => ⟨?_, ?_⟩⟩
      · suffices key : CallsIn (fz none) 0 P f vs.toArray w (Ret P s H w res H') from fun ro => key
        refine callsIn_of_wp_marks hf hb trivial (wpIn_mono (h3 none s _ w ⟨hR, hreg s vs hvs, rfl, trivial⟩) fun x a w' hp => ?_)
        obtain ⟨rfl, s', hE, hS⟩ := hp
        have hL : LeavesInM (fz none) 0 P fn a.tmps (Ret P s H w res H') a.defers .returning w' := by
          refine h8 s' w' a.defers fn a.tmps _ hS.rel hS.dfr.2 fun s2 w2 hE2 => ?_
          obtain ⟨u, g1, g2⟩ := h10 s2 w2 a.tmps hE2.rel (hS.reg.mono hE2.mono)
          exact ⟨u, g2, u, s2, rfl, g1, hE.trans hE2⟩
        rcases he with rfl | rfl <;> exact hL
      · intro hfl
        subst hfl
        have hds : ds = [] := by
          cases ds with
          | nil => rfl
          | cons => exact ft h5
        subst hds
        have hH : H' = H' := rfl
        suffices key : ∀ u, CallsDIn (fz none) 0 P f vs.toArray u w (fun e u' w' => u' = u ∧ Ret P s H w res H' e w') from fun ro => key
        intro u
        refine callsDIn_of_wp hf hb trivial (wpIn_mono (h3 none s _ w ⟨hR, hreg s vs hvs, rfl, trivial⟩) fun x a w' hp => ?_)
        obtain ⟨rfl, s', hE, hS⟩ := hp
        have hd : a.defers = [] := by
          have := hS.dfr.2
          cases hx : a.defers with
          | nil => rfl
          | cons d l => rw [hx] at this; exact this.elim
        have hL := h8 s' w' [] fn a.tmps (Ret P s H w res H') hS.rel trivial fun s2 w2 hE2 => by
          obtain ⟨u, g1, g2⟩ := h10 s2 w2 a.tmps hE2.rel (hS.reg.mono hE2.mono)
          exact ⟨u, g2, u, s2, rfl, g1, hE.trans hE2⟩
        obtain ⟨v, g1, g2⟩ : ∃ v, (results fn a.tmps).run P w' = .ok v w' ∧ Ret P s H w res H' (.returned v) w' := hL
        rcases he with rfl | rfl <;> exact ⟨hd, v, g1, g2⟩
/-- The table: each function in it is the program's own. -/
def TabOK (P : Program) (tb : Tab) : Prop := ∀ f xf, tget f tb = some xf → ∃ fn, P.funcs[f.toNat]? = some fn ∧ (fn.name == "runtime.NumGoroutine") = false ∧ cF P fn = some xf ∧ okF P fn = true
theorem lev_ok {tb : Tab} (ht : TabOK P tb) (hmix : P.follows .mixedOrders = true) : ∀ n, CallOK P (lev P tb n)
  | 0 => fun fl v args H k h => ft h
  | n + 1 => fun fl v args H k h => by
    cases v with
    | func f first cap =>
      have h : onSome (tget f tb) (fun xf => runFn P xf fl (lev P tb n) (app first (app args cap)) H k) = true := h
      obtain ⟨xf, h1, h⟩ := onSome_iff.1 h
      obtain ⟨fn, h2, h3, h4, h5⟩ := ht f xf h1
      rw [app_eq, app_eq] at h
      obtain ⟨res, H', h6, h7⟩ := runFn_ok (lev_ok ht hmix n) hmix h2 h4 h5 h
      refine ⟨res, H', h6, .inl ⟨f, first, cap, rfl, ⟨fn, h2, h3, ?_⟩, h7⟩⟩
      unfold cF at h4
      cases hb : fn.body with
      | none => rw [hb] at h4; cases h4
      | some b => rfl
    | _ => exact ft h
theorem heap0_none (i : Id) : hget heap0 i = none := by
  cases i with
  | mk a b c d =>
    show gD d (gD c (gD b (gD a (fillN (fillN (fillN (fillN none))))))) = none
    rw [gD_fillN, gD_fillN, gD_fillN, gD_fillN]
/-- **What the executor runs to true, the program runs to true**, from wherever it is called, and leaves all that lay there. -/
theorem runB_sound {tb : Tab} (ht : TabOK P tb) (hmix : P.follows .mixedOrders = true) {n : Nat} {f : Fid} (h : runB P tb n f = true) (ro : Option Nat) (w : World) :
    CallsIn (fz ro) 0 P f.toNat #[] w (fun e w' => e = .returned (.bool true) ∧ w'.os = w.os ∧ w'.tape = w.tape ∧ w'.output = w.output ∧ w.heap.size ≤ w'.heap.size ∧ ∀ k, k < w.heap.size → w'.heap[k]? = w.heap[k]?) := by
  have h : lev P tb n false (.func f [] []) [] heap0 isTrue = true := h
  obtain ⟨res, H', h1, h2⟩ := lev_ok ht hmix n _ _ _ _ _ h
  have hres : res = .bool true := by
    obtain ⟨b, rfl, hb⟩ := onBool_iff.1 (show onBool res (fun b => b) = true from h1)
    rw [hb]
  rcases h2 with ⟨f', first, cap, e, _, h2⟩ | ⟨_, l, e, _⟩
  · cases e
    have hR : Rel P (fun _ => none) heap0 w := ⟨fun i b e => (by rw [heap0_none] at e; cases e), fun i j L M e => absurd (heap0_none i) e, fun i L e => by cases e⟩
    refine (h2 _ w [] hR rfl).1 ro |>.mono fun e w' hr => ?_
    obtain ⟨u, s', rfl, e1, hE⟩ := hr
    subst hres
    rw [gvv_bool e1 rfl]
    refine ⟨rfl, hE.fr.os, hE.fr.tape, hE.fr.output, hE.fr.size, fun k hk => hE.fr.block k hk ?_⟩
    rintro ⟨i, L, hi, _⟩
    exact hi (heap0_none i)
  · cases e
/-- The same, of a call with arguments. -/
theorem callB_sound {tb : Tab} (ht : TabOK P tb) (hmix : P.follows .mixedOrders = true) {n : Nat} {f : Fid} {args : List AV} {k : AV → Heap → Bool} (h : lev P tb n false (.func f [] []) args heap0 k = true) {vs : List Value} (hvs : gvs (fun _ => none) args = some vs) :
    ∃ res H', k res H' = true ∧ ∀ (ro : Option Nat) (w : World), CallsIn (fz ro) 0 P f.toNat vs.toArray w (fun e w' => (∃ u s', e = .returned u ∧ gv s' res = some u) ∧ Go.RowKit.Below w.heap.size w w') := by
  obtain ⟨res, H', h1, h2⟩ := lev_ok ht hmix n _ _ _ _ _ h
  refine ⟨res, H', h1, fun ro w => ?_⟩
  rcases h2 with ⟨f', first, cap, e, _, h2⟩ | ⟨_, l, e, _⟩
  · cases e
    have hR : Rel P (fun _ => none) heap0 w := ⟨fun i b e => (by rw [heap0_none] at e; cases e), fun i j L M e => absurd (heap0_none i) e, fun i L e => by cases e⟩
    refine (h2 _ w vs hR (by simpa using hvs)).1 ro |>.mono fun e w' hr => ?_
    obtain ⟨u, s', rfl, e1, hE⟩ := hr
    refine ⟨⟨u, s', rfl, e1⟩, hE.fr.os, hE.fr.tape, hE.fr.output, hE.fr.size, fun k hk => hE.fr.block k hk ?_⟩
    rintro ⟨i, L, hi, _⟩
    exact hi (heap0_none i)
  · cases e
end
end Go.Xe
