/- Operations on maps and iterators. -/
import Derived.Test.YtphdffebnjekdaaGreatXeC1
namespace Go.Xe
open Go
section
variable {P : Program} {cl : CallT} {o : Oper} {d : Dst} {s : Pl} {ρ : Operand → Value} {r : Regs} {x : XO}
theorem run_getMap {w : World} {b : Nat} {ms : Array MapEntry} {c : Nat} (h : w.heap[b]? = some (.map ms c)) : (getObj b).run P w = .ok (.map ms c) w := by
  simp only [getObj, Sem.run, h]
theorem run_getObj {w : World} {b : Nat} {ob : Obj} (h : w.heap[b]? = some ob) (hc : ∀ c e f, ob ≠ .cells c e f) : (getObj b).run P w = .ok ob w := by
  cases ob with
  | cells c e f => exact absurd rfl (hc c e f)
  | _ => simp only [getObj, Sem.run, h]
theorem run_setObj {w : World} {b : Nat} {ob ob' : Obj} (h : w.heap[b]? = some ob) (hc : ∀ c e f, ob ≠ .cells c e f) : (setObj b ob').run P w = .ok () { w with heap := w.heap.setIfInBounds b ob' } := by
  cases ob with
  | cells c e f => exact absurd rfl (hc c e f)
  | _ => simp only [setObj, Sem.run, h]
theorem heap_setObj {w : World} {b : Nat} {ob ob' : Obj} (h : w.heap[b]? = some ob) : ({ w with heap := w.heap.setIfInBounds b ob' } : World).heap[b]? = some ob' := by
  have := (Array.getElem?_eq_some_iff.1 h).1
  simp [this]
theorem fr_setObj {w : World} {b : Nat} {ob' : Obj} : Fr (fun β => β = b) w { w with heap := w.heap.setIfInBounds b ob' } :=
  ⟨rfl, rfl, rfl, by simp, fun k _ hk => by simp only [Array.getElem?_setIfInBounds_ne (fun e : b = k => hk e.symm)]⟩
/-- An object is another. -/
theorem obj_ev {H : Heap} {w : World} {i : Id} {L : Loc} {b b' : Blk} {ob ob' : Obj} (hR : Rel P s H w) (hi : hget H i = some b) (hL : s i = some L) (ho : w.heap[L.b]? = some ob) (hb : BlkRel P s L b' (some ob')) :
    Ev P s H w s (hset H i (some b')) { w with heap := w.heap.setIfInBounds L.b ob' } :=
  Ev.set hR hi hL fr_setObj (by rw [heap_setObj ho]; exact hb)
theorem keyOk_run {kk : Nat} {kt : TypeId} {e : Bool} {a : AV} {v : Value} (hk : KK P kt kk) (hv : gv s a = some v) (h : simpleKey a kk = true ∨ keyOk P kt e a = true) (w : World) : (Instr.checkKey e 10000 kt v).run P w = .ok () w := by
  rcases h with h | h
  · obtain ⟨u, hu, h0, h1⟩ := hk
    have e0 : Instr.checkKey e 10000 kt v = Instr.checkKey e (9999 + 1) kt v := rfl
    rw [e0, Instr.checkKey]
    cases a with
    | int k n =>
      obtain ⟨k', rfl⟩ := h0 (by have : Nat.beq kk 0 = true := h; rwa [Nat.beq_eq] at this)
      rw [gvv_int hv rfl]
      simp only [Sem.run_bind, run_underlying hu, Result.andThen_ok]; rfl
    | str t =>
      obtain rfl := h1 (by have : Nat.beq kk 1 = true := h; rwa [Nat.beq_eq] at this)
      rw [(gvv_str hv rfl).2]
      simp only [Sem.run_bind, run_underlying hu, Result.andThen_ok]; rfl
    | _ => exact ft h
  · unfold keyOk at h
    split at h
    · rename_i u hu
      split at h
      · rename_i y hy
        rw [gvv_toV hv hu]; exact pureRun_run hy w
      · cases h
    · cases h
theorem orF_or {a b : Bool} (h : orF a b = true) : a = true ∨ b = true := by rwa [orF_eq, Bool.or_eq_true] at h
theorem esOf_sound {a : AV} {H : Heap} {k : List (AV × AV × Nat) → Bool} (h : esOf a H k = true) : ∃ es, k es = true ∧ ∀ (s : Pl) (w : World) v, Rel P s H w → gv s a = some v →
    (v = .map none ∧ es = []) ∨ ∃ b ms c, v = .map (some b) ∧ w.heap[b]? = some (.map ms c) ∧ EntRel s es ms.toList := by
  cases a with
  | map i =>
    obtain ⟨es, c, h1, h2⟩ := atMap_iff.1 (show atMap i H (fun es _ => k es) = true from h)
    refine ⟨es, h2, fun s w v hR hv => .inr ?_⟩
    obtain ⟨L, hL, rfl⟩ := gvv_map hv rfl
    obtain ⟨ms, e1, e2⟩ := hR.at h1 hL
    exact ⟨_, ms, c, rfl, e1, e2⟩
  | lit v =>
    obtain ⟨h1, h2⟩ := chk_iff.1 (show chk (litNilMap v) (k []) = true from h)
    refine ⟨[], h2, fun s w u hR hv => .inl ⟨?_, rfl⟩⟩
    simp only [gv, Option.some.injEq] at hv; subst hv
    cases v with
    | map m => cases m with | none => rfl | some _ => exact ft h1
    | _ => exact ft h1
  | _ => exact ft h
theorem isEmp_ent {es : List (AV × AV × Nat)} {ms : Array MapEntry} (h : EntRel s es ms.toList) : isEmp es = ms.isEmpty := by
  have := h.length
  cases es with
  | nil => show true = _; simp at this; simp [this]
  | cons e es =>
    show false = _
    have h0 : ms.size ≠ 0 := by rw [← Array.length_toList, this]; simp
    simp only [Array.isEmpty]
    exact (decide_eq_false h0).symm
theorem zeroA_spec {t : TypeId} {z : AV} (h : zeroA P t = some z) : ∃ i v, P.info? t = some i ∧ i.zero = some v ∧ z = ofV v := by
  unfold zeroA at h
  split at h
  · rename_i i h1
    split at h
    · rename_i v h2; simp only [Option.some.injEq] at h; exact ⟨i, v, h1, h2, h.symm⟩
    · cases h
  · cases h
theorem pair_rec (ok : Bool) (v : AV) (b : Bool) : (@Bool.rec (fun _ => AV) v (.tuple [v, .bool b]) ok) = if ok = true then .tuple [v, .bool b] else v := by cases ok <;> rfl
theorem gv_pair {v : AV} {u : Value} (h : gv s v = some u) (b : Bool) (ok : Bool) : gv s (if ok = true then .tuple [v, .bool b] else v) = some (if ok = true then .tuple #[u, .bool b] else u) := by
  cases ok with
  | false => exact h
  | true =>
    simp only [if_true, gv]
    rw [gvs_cons.2 ⟨u, [.bool b], h, rfl, rfl⟩]
theorem lookup_full {t kt e : TypeId} {z : AV} {x k : Operand} {ok : Bool} (ho : o.op = .lookup t x k ok) (ht : P.underlying t = some (.map kt e)) (hk : KK P kt (kkOf P kt)) (hz : zeroA P e = some z) :
    Full P cl o d (.lookup (kkOf P kt) kt z ok d (cO x) (cO k)) := fun ih r D H h => by
  have h : esOf (ov (cO x) r) H (fun es => chk (keyMay P (kkOf P kt) kt es (ov (cO k) r)) (mfind P (kkOf P kt) kt (ov (cO k) r) es (fun m => lkK m z ok (fun v => ih (put d v r) D H)))) = true := h
  obtain ⟨es, h, hes⟩ := esOf_sound (P := P) h
  obtain ⟨h1, h⟩ := chk_iff.1 h
  obtain ⟨m, h, hm⟩ := mfind_sound hk (n := 0) h
  have hv : ih (put d (if ok = true then .tuple [(m.map (·.2.1)).getD z, .bool m.isSome] else (m.map (·.2.1)).getD z) r) D H = true := by
    cases m with
    | none => have h : ih (put d (@Bool.rec (fun _ => AV) z (.tuple [z, .bool false]) ok) r) D H = true := h; rwa [pair_rec] at h
    | some y => have h : ih (put d (@Bool.rec (fun _ => AV) y.2.1 (.tuple [y.2.1, .bool true]) ok) r) D H = true := h; rwa [pair_rec] at h
  refine ⟨_, D, H, hv, fun ro s w ac Q hR hO hD => ?_⟩
  have hx := hO x (by rw [ho]; simp [Op.operands])
  have hkey := hO k (by rw [ho]; simp [Op.operands])
  obtain ⟨i, zv, hz1, hz2, rfl⟩ := zeroA_spec hz
  obtain ⟨u, hu⟩ : ∃ u, P.underlying kt = some u := ⟨hk.choose, hk.choose_spec.1⟩
  have fin : ∀ ms : Array MapEntry, EntRel s es ms.toList → ((execOp ac.eval o).run P w = (do
      Instr.checkKey ms.isEmpty 10000 kt (ac.eval k)
      let (v, okv) ← match ← Instr.findKey kt (ac.eval k) ms.toList with
        | some (_, v) => pure (v, true)
        | none => pure (← zeroValue e, false)
      pure (.value (if ok then .tuple #[v, .bool okv] else v)) : Sem Next).run P w) →
      o.wpIn (fz ro) 0 P ac w (fun a' w' => ∃ u s' ds, a' = ({ ac with defers := ds } : Act).put o.dst u ∧ gv s' (if ok = true then .tuple [(m.map (·.2.1)).getD (ofV zv), .bool m.isSome] else (m.map (·.2.1)).getD (ofV zv)) = some u ∧ Ev P s H w s' H w' ∧ DRel s' ro D ds) Q := fun ms hms he => by
    have hmay := keyOk_run (e := ms.isEmpty) hk hkey (by have := orF_or h1; rwa [isEmp_ent hms] at this) w
    cases m with
    | none =>
      have hf := findKey_of hu (hm s _ _ w hkey hms)
      refine wpIn_run (fun c => by rw [ho]; simp) (w' := w) (u := if ok = true then .tuple #[zv, .bool false] else zv) ?_ ⟨_, s, ac.defers, rfl, gv_pair (gv_ofV zv) false ok, .refl hR, hD⟩
      rw [he]
      simp only [Sem.run_bind, hmay, hf, Result.andThen_ok, run_zeroValue hz1 hz2, Sem.run_pure]
    | some y =>
      obtain ⟨j, e1, e2⟩ := hm
      obtain ⟨q, e3, e4⟩ := e2 s _ _ w hkey hms
      obtain ⟨q', e5, e6, e7, e8⟩ := hms.get e1
      rw [e3] at e5; cases e5
      have hf := findKey_of hu e4
      refine wpIn_run (fun c => by rw [ho]; simp) (w' := w) (u := if ok = true then .tuple #[q.val, .bool true] else q.val) ?_ ⟨_, s, ac.defers, rfl, gv_pair e7 true ok, .refl hR, hD⟩
      rw [he]
      simp only [Sem.run_bind, hmay, hf, Result.andThen_ok, Sem.run_pure]
  rcases hes s w _ hR hx with ⟨e1, e2⟩ | ⟨b, ms, c, e1, e2, e3⟩
  · subst e2
    refine fin #[] trivial ?_
    simp only [execOp, ho, Instr.lookup, Sem.run_bind, run_underlying ht, Result.andThen_ok, e1, Sem.run_pure]
    cases hc : (Instr.checkKey (#[] : Array MapEntry).isEmpty 10000 kt (ac.eval k)).run P w with
    | halt a b => rfl
    | ok a w1 =>
      simp only [Result.andThen_ok]
      cases hf : (Instr.findKey kt (ac.eval k) (#[] : Array MapEntry).toList).run P w1 with
      | halt a b => rfl
      | ok y w2 =>
        simp only [Result.andThen_ok]
        cases y with
        | none => simp only [Sem.run_bind]; cases (zeroValue e).run P w2 <;> rfl
        | some y => rfl
  · refine fin ms e3 ?_
    simp only [execOp, ho, Instr.lookup, Sem.run_bind, run_underlying ht, Result.andThen_ok, e1, run_getMap e2, Sem.run_pure]
    cases hc : (Instr.checkKey ms.isEmpty 10000 kt (ac.eval k)).run P w with
    | halt a b => rfl
    | ok a w1 =>
      simp only [Result.andThen_ok]
      cases hf : (Instr.findKey kt (ac.eval k) ms.toList).run P w1 with
      | halt a b => rfl
      | ok y w2 =>
        simp only [Result.andThen_ok]
        cases y with
        | none => simp only [Sem.run_bind]; cases (zeroValue e).run P w2 <;> rfl
        | some y => rfl
theorem mpK_some {e : AV × AV × Nat} {a v : AV} {l : List (AV × AV × Nat)} {c : Nat} {k : List (AV × AV × Nat) → Nat → Bool} : mpK (some e) a v l c k = k l c := rfl
theorem mpK_none {a v : AV} {l : List (AV × AV × Nat)} {c : Nat} {k : List (AV × AV × Nat) → Nat → Bool} : mpK none a v l c k = k (l ++ [(a, v, c)]) (c + 1) := by
  show forceN (Nat.succ c) (fun c2 => k (app l [(a, v, c)]) c2) = _
  rw [forceN_eq, app_eq]
theorem run_keyThatStays {a b : Value} (h : Instr.sameBits 10000 a b = true) (w : World) : (Instr.keyThatStays a b).run P w = .ok b w := by
  simp only [Instr.keyThatStays, h, if_true, Sem.run_pure]
theorem modify_set {ms : Array MapEntry} {i : Nat} {m : MapEntry} (hi : ms[i]? = some m) (f : MapEntry → MapEntry) : (ms.modify i f).toList = ms.toList.set i (f m) := by
  apply List.ext_getElem?
  intro j
  rw [Array.getElem?_toList, Array.getElem?_modify, List.getElem?_set]
  by_cases h : i = j
  · subst h
    have hlt := (Array.getElem?_eq_some_iff.1 hi).1
    simp only [if_true, hi, Option.map_some, Array.length_toList, hlt]
  · rw [if_neg h, if_neg h, Array.getElem?_toList]
/-- An entry is put: the map as it then is. -/
theorem put_ev {H : Heap} {i : Id} {kk : Nat} {kt : TypeId} {a v : AV} {es : List (AV × AV × Nat)} {c : Nat} {k : List (AV × AV × Nat) → Nat → Bool} (hk : KK P kt kk) (hi : hget H i = some (.map es c))
    (h : mput P kk kt a v es (fun m l => mpK m a v l c k) = true) : ∃ es' c', k es' c' = true ∧ ∀ (s : Pl) (w : World) kv vv L, Rel P s H w → gv s a = some kv → gv s v = some vv → s i = some L →
      ∃ ms ms' : Array MapEntry, w.heap[L.b]? = some (.map ms c) ∧ Ev P s H w s (hset H i (some (.map es' c'))) { w with heap := w.heap.setIfInBounds L.b (.map ms' c') } ∧
        ((∃ j m, ms[j]? = some m ∧ (∀ w', (Instr.findKey kt kv ms.toList).run P w' = .ok (some (j, m.val)) w') ∧ Instr.sameBits 10000 m.key kv = true ∧ ms' = ms.modify j (fun e => { e with key := kv, val := vv }) ∧ c' = c ∧ (∃ e, es[j]? = some e ∧ es' = es.set j (a, v, e.2.2))) ∨
         ((∀ w', (Instr.findKey kt kv ms.toList).run P w' = .ok none w') ∧ ms' = ms.push { key := kv, val := vv, born := c } ∧ c' = c + 1)) := by
  obtain ⟨u, hu⟩ : ∃ u, P.underlying kt = some u := ⟨hk.choose, hk.choose_spec.1⟩
  rcases mput_sound hk (n := 0) h with ⟨h1, h2⟩ | ⟨j, e, h1, h2, h3⟩
  · rw [mpK_none] at h1
    refine ⟨_, _, h1, fun s w kv vv L hR hkv hvv hL => ?_⟩
    obtain ⟨ms, e1, e2⟩ := hR.at hi hL
    refine ⟨ms, ms.push { key := kv, val := vv, born := c }, e1, obj_ev hR hi hL e1 ⟨_, rfl, ?_⟩, .inr ⟨fun w' => findKey_of hu (h2 s kv _ w' hkv e2), rfl, rfl⟩⟩
    rw [Array.toList_push]
    exact e2.push hkv hvv rfl
  · rw [mpK_some] at h2
    refine ⟨_, _, h2, fun s w kv vv L hR hkv hvv hL => ?_⟩
    obtain ⟨ms, e1, e2⟩ := hR.at hi hL
    obtain ⟨m, e3, e4, e5⟩ := h3 s kv _ w hkv e2
    obtain ⟨m', e6, e7, e8, e9⟩ := e2.get h1
    rw [e3] at e6; cases e6
    have e3' : ms[j]? = some m := by rwa [Array.getElem?_toList] at e3
    refine ⟨ms, ms.modify j (fun e => { e with key := kv, val := vv }), e1, obj_ev hR hi hL e1 ⟨_, rfl, ?_⟩, .inl ⟨j, m, e3', fun w' => ?_, e5, rfl, rfl, e, h1, rfl⟩⟩
    · rw [modify_set e3']
      exact e2.set hkv hvv e9
    · obtain ⟨m2, e10, e11, _⟩ := h3 s kv _ w' hkv e2
      rw [e3] at e10; cases e10
      rw [Nat.zero_add] at e11
      exact findKey_of hu e11
theorem mupd_full {t kt e : TypeId} {x k v : Operand} (ho : o.op = .mapUpdate t x k v ∨ o.op = .insert t x k v) (ht : P.underlying t = some (.map kt e)) (hk : KK P kt (kkOf P kt)) : Full P cl o d (.mupd (kkOf P kt) kt d (cO x) (cO k) (cO v)) := fun ih r D H h => by
  have h : onMap (ov (cO x) r) (fun i => atMap i H (fun es c => chk (keyMayF P (kkOf P kt) kt (ov (cO k) r)) (mput P (kkOf P kt) kt (ov (cO k) r) (ov (cO v) r) es (fun m l => mpK m (ov (cO k) r) (ov (cO v) r) l c (fun l c => ih (put d (AV.tuple []) r) D (hset H i (some (.map l c)))))))) = true := h
  obtain ⟨i, h1, h⟩ := onMap_iff.1 h
  obtain ⟨es, c, h2, h⟩ := atMap_iff.1 h
  obtain ⟨h3, h⟩ := chk_iff.1 h
  obtain ⟨es', c', h, hev⟩ := put_ev hk h2 h
  refine ⟨_, D, _, h, fun ro s w ac Q hR hO hD => ?_⟩
  have m1 : x ∈ o.op.operands ∧ k ∈ o.op.operands ∧ v ∈ o.op.operands := by rcases ho with ho | ho <;> rw [ho] <;> simp [Op.operands]
  obtain ⟨L, hL, ex⟩ := gvv_map (hO x m1.1) h1
  obtain ⟨ms, ms', e1, e2, e3⟩ := hev s w _ _ L hR (hO k m1.2.1) (hO v m1.2.2) hL
  have hmay := keyOk_run (e := false) hk (hO k m1.2.1) (orF_or h3) w
  refine wpIn_skip' (fun c => by rcases ho with ho | ho <;> rw [ho] <;> simp) ?_ ⟨undef, s, ac.defers, rfl, rfl, e2, hD⟩
  have hrun : (Instr.mapUpdate t (ac.eval x) (ac.eval k) (ac.eval v)).run P w = .ok () { w with heap := w.heap.setIfInBounds L.b (.map ms' c') } := by
    simp only [Instr.mapUpdate, Sem.run_bind, run_underlying ht, Result.andThen_ok, ex, run_getMap e1, hmay]
    rcases e3 with ⟨j, m, f1, f2, f3, rfl, rfl, _⟩ | ⟨f1, rfl, rfl⟩
    · simp only [f2, Result.andThen_ok, f1, Option.map_some, Option.getD_some, Sem.run_bind, run_keyThatStays f3]
      rw [run_setObj e1 (fun _ _ _ => by simp)]
    · simp only [f1, Result.andThen_ok]
      rw [run_setObj e1 (fun _ _ _ => by simp)]
  rcases ho with ho | ho <;> simp only [execOp, ho, Sem.run_bind, hrun, Result.andThen_ok, Sem.run_pure]
theorem mentry_full {t kt e : TypeId} {z : AV} {x k : Operand} (ho : o.op = .mapEntry t x k) (ht : P.underlying t = some (.map kt e)) (hk : KK P kt (kkOf P kt)) (hz : zeroA P e = some z) : Full P cl o d (.mentry (kkOf P kt) kt z d (cO x) (cO k)) := fun ih r D H h => by
  have h : onMap (ov (cO x) r) (fun i => atMap i H (fun es c => chk (keyMayF P (kkOf P kt) kt (ov (cO k) r)) (mfind P (kkOf P kt) kt (ov (cO k) r) es (fun f => meK f z c (fun u st => mput P (kkOf P kt) kt (ov (cO k) r) u es (fun m l => mpK m (ov (cO k) r) z l c (fun l c => ih (put d (.tuple [u, .int .i64 (Int.ofNat st)]) r) D (hset H i (some (.map l c)))))))))) = true := h
  obtain ⟨i, h1, h⟩ := onMap_iff.1 h
  obtain ⟨es, c, h2, h⟩ := atMap_iff.1 h
  obtain ⟨h3, h⟩ := chk_iff.1 h
  obtain ⟨f, h, hf⟩ := mfind_sound hk (n := 0) h
  obtain ⟨u, hu⟩ : ∃ u, P.underlying kt = some u := ⟨hk.choose, hk.choose_spec.1⟩
  have m1 : x ∈ o.op.operands ∧ k ∈ o.op.operands := by rw [ho]; simp [Op.operands]
  obtain ⟨iz, zv, hz1, hz2, rfl⟩ := zeroA_spec hz
  cases f with
  | none =>
    have h : mput P (kkOf P kt) kt (ov (cO k) r) (ofV zv) es (fun m l => mpK m (ov (cO k) r) (ofV zv) l c (fun l c' => ih (put d (.tuple [ofV zv, .int .i64 (Int.ofNat c)]) r) D (hset H i (some (.map l c'))))) = true := h
    obtain ⟨es', c', h, hev⟩ := put_ev hk h2 h
    refine ⟨_, D, _, h, fun ro s w ac Q hR hO hD => ?_⟩
    obtain ⟨L, hL, ex⟩ := gvv_map (hO x m1.1) h1
    obtain ⟨ms, ms', e1, e2, e3⟩ := hev s w _ _ L hR (hO k m1.2) (gv_ofV zv) hL
    have hmay := keyOk_run (e := false) hk (hO k m1.2) (orF_or h3) w
    have hno : (Instr.findKey kt (ac.eval k) ms.toList).run P w = .ok none w := by
      obtain ⟨ms2, g1, g2⟩ := hR.at h2 hL
      rw [e1] at g1; cases g1
      exact findKey_of hu (hf s _ _ w (hO k m1.2) g2)
    rcases e3 with ⟨j, m, f1, f2, _⟩ | ⟨f1, rfl, rfl⟩
    · have f2 := f2 w; rw [hno] at f2; exact absurd f2 (by simp)
    · refine wpIn_run (fun c => by rw [ho]; simp) (u := .tuple #[zv, goInt c]) ?_ ⟨_, s, ac.defers, rfl, ?_, e2, hD⟩
      · simp only [execOp, ho, Instr.mapEntry, Sem.run_bind, run_underlying ht, Result.andThen_ok, ex, run_getMap e1, hmay, hno, run_zeroValue hz1 hz2]
        rw [run_setObj e1 (fun _ _ _ => by simp)]
        rfl
      · simp only [gv]
        rw [gvs_cons.2 ⟨zv, [goInt c], gv_ofV zv, rfl, rfl⟩]
  | some y =>
    have h : mput P (kkOf P kt) kt (ov (cO k) r) y.2.1 es (fun m l => mpK m (ov (cO k) r) (ofV zv) l c (fun l c' => ih (put d (.tuple [y.2.1, .int .i64 (Int.ofNat y.2.2)]) r) D (hset H i (some (.map l c'))))) = true := h
    obtain ⟨j, hj, hf⟩ := hf
    rcases mput_sound hk (n := 0) h with ⟨g1, g2⟩ | ⟨j', e', g1, g2, g3⟩
    · rw [mpK_none] at g1
      refine ⟨_, D, _, g1, fun ro s w ac Q hR hO hD => ?_⟩
      obtain ⟨L, hL, ex⟩ := gvv_map (hO x m1.1) h1
      obtain ⟨ms, e1, e2⟩ := hR.at h2 hL
      obtain ⟨m, _, a1⟩ := hf s _ _ w (hO k m1.2) e2
      have a2 := g2 s _ _ w (hO k m1.2) e2
      rw [a1] at a2; exact absurd a2 (by simp)
    · rw [mpK_some] at g2
      refine ⟨_, D, _, g2, fun ro s w ac Q hR hO hD => ?_⟩
      obtain ⟨L, hL, ex⟩ := gvv_map (hO x m1.1) h1
      have hkv := hO k m1.2
      obtain ⟨ms, e1, e2⟩ := hR.at h2 hL
      obtain ⟨m, b1, b2⟩ := hf s _ _ w hkv e2
      obtain ⟨m', b3, b4, b5⟩ := g3 s _ _ w hkv e2
      rw [b2] at b4
      simp only [Nat.zero_add, Result.ok.injEq, Option.some.injEq, Prod.mk.injEq, and_true] at b4
      obtain ⟨rfl, _⟩ := b4
      rw [b1] at b3; cases b3
      rw [hj] at g1; cases g1
      obtain ⟨m2, b6, b7, b8, b9⟩ := e2.get hj
      rw [b1] at b6; cases b6
      have b1' : ms[j]? = some m := by rwa [Array.getElem?_toList] at b1
      have hmay := keyOk_run (e := false) hk hkv (orF_or h3) w
      rw [Nat.zero_add] at b2
      have hfk := findKey_of hu b2
      have hent : EntRel s (es.set j (ov (cO k) r, y.2.1, y.2.2)) (ms.modify j fun e => { e with key := ac.eval k }).toList := by
        rw [modify_set b1']; exact e2.set hkv b8 b9
      refine wpIn_run (fun c => by rw [ho]; simp) (u := .tuple #[m.val, goInt m.born]) ?_ ⟨_, s, ac.defers, rfl, ?_, obj_ev hR h2 hL e1 ⟨_, rfl, hent⟩, hD⟩
      · simp only [execOp, ho, Instr.mapEntry, Sem.run_bind, run_underlying ht, Result.andThen_ok, ex, run_getMap e1, hmay, hfk, b1', Option.map_some, Option.getD_some, run_keyThatStays b5]
        rw [run_setObj e1 (fun _ _ _ => by simp)]
        rfl
      · simp only [gv]
        rw [gvs_cons.2 ⟨m.val, [goInt m.born], b8, by rw [b9]; rfl, rfl⟩]
theorem esPut_sound {n : Nat} {v : AV} : ∀ {es : List (AV × AV × Nat)} {k : List (AV × AV × Nat) → Bool}, esPut n v es k = true → ∃ i e, es[i]? = some e ∧ e.2.2 = n ∧ (∀ j e', j < i → es[j]? = some e' → e'.2.2 ≠ n) ∧ k (es.set i (e.1, v, e.2.2)) = true
  | [], _, h => ft h
  | e :: es, k, h => by
    have h : @Bool.rec (fun _ => Bool) (esPut n v es (fun l => k (e :: l))) (k ((e.1, v, e.2.2) :: es)) (Nat.beq e.2.2 n) = true := h
    cases hb : Nat.beq e.2.2 n with
    | true =>
      rw [hb] at h
      rw [Nat.beq_eq] at hb
      exact ⟨0, e, rfl, hb, fun j _ hj => absurd hj (Nat.not_lt_zero _), h⟩
    | false =>
      rw [hb] at h
      obtain ⟨i, e', h1, h2, h3, h4⟩ := esPut_sound (k := fun l => k (e :: l)) h
      refine ⟨i + 1, e', h1, h2, fun j e'' hj hj' => ?_, h4⟩
      cases j with
      | zero =>
        simp only [List.getElem?_cons_zero, Option.some.injEq] at hj'; subst hj'
        exact fun e0 => by rw [e0, Nat.beq_refl] at hb; cases hb
      | succ j => exact h3 j e'' (by omega) hj'
theorem findIdx_ent {n : Nat} {es : List (AV × AV × Nat)} {ms : Array MapEntry} {i : Nat} {e : AV × AV × Nat} (he : EntRel s es ms.toList) (h1 : es[i]? = some e) (h2 : e.2.2 = n) (h3 : ∀ j e', j < i → es[j]? = some e' → e'.2.2 ≠ n) :
    ms.findIdx? (fun e => (e.born : Int) == (Int.ofNat n)) = some i := by
  obtain ⟨m, a1, _, _, a2⟩ := he.get h1
  have hlt : i < ms.size := by rw [← Array.length_toList]; exact (List.getElem?_eq_some_iff.1 a1).1
  rw [Array.findIdx?_eq_some_iff_getElem]
  rw [List.getElem?_eq_some_iff] at a1
  obtain ⟨_, a1⟩ := a1
  refine ⟨hlt, ?_, fun j hj => ?_⟩
  · rw [Array.getElem_toList] at a1
    rw [a1, ← a2, h2]; simp
  · have hjl : j < es.length := by rw [← he.length, Array.length_toList]; omega
    obtain ⟨m', b1, _, _, b2⟩ := he.get (List.getElem?_eq_getElem hjl)
    rw [List.getElem?_eq_some_iff] at b1
    obtain ⟨_, b1⟩ := b1
    rw [Array.getElem_toList] at b1
    have := h3 j _ hj (List.getElem?_eq_getElem hjl)
    rw [b1, ← b2]
    simp only [Int.ofNat_eq_natCast, beq_iff_eq]
    intro e0; exact this (by omega)
theorem estore_full {t : TypeId} {x st v : Operand} (ho : o.op = .entryStore t x st v) : Full P cl o d (.estore d (cO x) (cO st) (cO v)) := fun ih r D H h => by
  have h : onInt (ov (cO st) r) (fun _ n => onNat n (fun n => onMap (ov (cO x) r) (fun i => atMap i H (fun es c => esPut n (ov (cO v) r) es (fun l => ih (put d (AV.tuple []) r) D (hset H i (some (.map l c)))))))) = true := h
  obtain ⟨kd, n', h0, k1⟩ := onInt_iff.1 h
  obtain ⟨n, hn, k2⟩ := onNat_iff.1 k1
  rw [hn] at h0
  obtain ⟨i, h1, k3⟩ := onMap_iff.1 k2
  obtain ⟨es, c, h2, k4⟩ := atMap_iff.1 k3
  obtain ⟨j, e, g1, g2, g3, k5⟩ := esPut_sound k4
  refine ⟨_, D, _, k5, fun ro s w ac Q hR hO hD => ?_⟩
  have m1 : x ∈ o.op.operands ∧ st ∈ o.op.operands ∧ v ∈ o.op.operands := by rw [ho]; simp [Op.operands]
  obtain ⟨L, hL, ex⟩ := gvv_map (hO x m1.1) h1
  have est := gvv_int (hO st m1.2.1) h0
  obtain ⟨ms, e1, e2⟩ := hR.at h2 hL
  have hidx := findIdx_ent e2 g1 g2 g3
  obtain ⟨m, a1, a2, a3, a4⟩ := e2.get g1
  have a1' : ms[j]? = some m := by rwa [Array.getElem?_toList] at a1
  have hent : EntRel s (es.set j (e.1, ov (cO v) r, e.2.2)) (ms.modify j fun e => { e with val := ac.eval v }).toList := by
    rw [modify_set a1']; exact e2.set a2 (hO v m1.2.2) a4
  refine wpIn_skip' (fun c => by rw [ho]; simp) ?_ ⟨undef, s, ac.defers, rfl, rfl, obj_ev hR h2 hL e1 ⟨_, rfl, hent⟩, hD⟩
  simp only [execOp, ho, Instr.entryStore, Sem.run_bind, ex, run_getMap e1, Result.andThen_ok, est, asInt_run, hidx]
  rw [run_setObj e1 (fun _ _ _ => by simp)]
  rfl
theorem lenm_full {c : Call} {t kt e : TypeId} {x : Operand} (ho : o.op = .call c) (hc : c.callee = .builtin .len) (hl : c.args.toList = [x]) (ht : c.argTypes[0]? = some t) (hu : P.underlying t = some (.map kt e)) : Full P cl o d (.lenm d (cO x)) := fun ih r D H h => by
  have h : esOf (ov (cO x) r) H (fun es => forceN (lenF es) (fun n => ih (put d (.int .i64 (Int.ofNat n)) r) D H)) = true := h
  obtain ⟨es, h, hes⟩ := esOf_sound (P := P) h
  rw [forceN_eq, lenF_eq] at h
  refine ⟨_, D, H, h, fun ro s w ac Q hR hO hD => ?_⟩
  refine wpIn_run (fun c => by rw [ho]; simp) (w' := w) (u := goInt es.length) ?_ ⟨_, s, ac.defers, rfl, rfl, .refl hR, hD⟩
  rw [call_run ho hc hl]
  rcases hes s w _ hR (call_args ho hc hl hO x (by simp)) with ⟨e1, rfl⟩ | ⟨b, ms, c', e1, e2, e3⟩
  · simp [builtin, Builtin.len_, ht, e1, run_underlying hu, goInt]
  · have := e3.length
    simp [builtin, Builtin.len_, ht, e1, run_underlying hu, goInt, run_getMap e2, ← this]
theorem clrm_full {c : Call} {t kt e : TypeId} {x : Operand} (ho : o.op = .call c) (hc : c.callee = .builtin .clear) (hl : c.args.toList = [x]) (ht : c.argTypes[0]? = some t) (hu : P.underlying t = some (.map kt e)) : Full P cl o d (.clrm d (cO x)) := fun ih r D H h => by
  have h : onMap (ov (cO x) r) (fun i => atMap i H (fun _ c => ih (put d (AV.tuple []) r) D (hset H i (some (.map [] c))))) = true := h
  obtain ⟨i, h1, h⟩ := onMap_iff.1 h
  obtain ⟨es, c', h2, h⟩ := atMap_iff.1 h
  refine ⟨_, D, _, h, fun ro s w ac Q hR hO hD => ?_⟩
  obtain ⟨L, hL, ex⟩ := gvv_map (call_args ho hc hl hO x (by simp)) h1
  obtain ⟨ms, e1, e2⟩ := hR.at h2 hL
  refine wpIn_run (fun c => by rw [ho]; simp) (u := .tuple #[]) ?_ ⟨_, s, ac.defers, rfl, rfl, obj_ev hR h2 hL e1 ⟨#[], rfl, trivial⟩, hD⟩
  rw [call_run ho hc hl]
  simp only [builtin, Builtin.clear_, List.map_cons, List.map_nil, Sem.run_bind, ht, ex]
  simp [run_underlying hu, run_getMap e1, run_setObj e1 (fun _ _ _ => by simp)]
theorem rngm_full {t kt e : TypeId} {x : Operand} (ho : o.op = .range t x) (hu : P.underlying t = some (.map kt e)) : Full P cl o d (.rngm d (cO x)) := fun ih r D H h => by
  have h : onMap (ov (cO x) r) (fun m => atMap m H (fun _ c => alloc H (.iter m c [] c) (fun i H => ih (put d (.ptr i 0) r) D H))) = true := h
  obtain ⟨i, h1, h⟩ := onMap_iff.1 h
  obtain ⟨es, c, h2, h⟩ := atMap_iff.1 h
  obtain ⟨H', h3, h4, h5⟩ := alloc_iff h
  refine ⟨_, D, H', h5, fun ro s w ac Q hR hO hD => ?_⟩
  obtain ⟨L, hL, ex⟩ := gvv_map (hO x (by rw [ho]; simp [Op.operands])) h1
  obtain ⟨ms, e1, e2⟩ := hR.at h2 hL
  have hle := upd_le (L := ⟨w.heap.size, 0, 0, 0⟩) hR.fresh
  refine wpIn_run (fun c => by rw [ho]; simp) (w' := w.alloc (.mapIter (some L.b) c #[] c)) (u := .pointer (some ⟨w.heap.size, 0, none⟩)) ?_
    ⟨_, _, ac.defers, rfl, by simp only [gv, upd_self, Option.map_some], Ev.alloc (L := ⟨w.heap.size, 0, 0, 0⟩) hR h3 h4 rfl rfl rfl rfl rfl ⟨rfl, L, hle i L hL, rfl⟩, hD.mono hle⟩
  simp only [execOp, ho, ex, Instr.range, Sem.run_bind, run_underlying hu, Result.andThen_ok, run_getMap e1, Sem.run_pure, run_newObj]
  rfl
end
end Go.Xe
