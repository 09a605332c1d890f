/- What is built, and what makes memory. -/
import Derived.Test.YtphdffebnjekdaaGreatXeO4
namespace Go.Xe
open Go
section
variable {P : Program} {o : Oper} {d : Dst} {s : Pl} {ρ : Operand → Value} {r : Regs}
theorem foldl_put (vs : List Value) (off : Nat) : ∀ (k : Nat) (cs : Array Value), off + k + vs.length ≤ cs.size →
    ((vs.zipIdx k).foldl (fun cs (x : Value × Nat) => cs.setIfInBounds (off + x.2) x.1) cs).toList = cs.toList.take (off + k) ++ (vs ++ cs.toList.drop (off + k + vs.length)) := by
  induction vs with
  | nil => intro k cs h; simp
  | cons v vs ih =>
    intro k cs h
    simp only [List.length_cons] at h
    simp only [List.zipIdx_cons, List.foldl_cons]
    rw [ih (k + 1) _ (by simp; omega)]
    simp only [Array.toList_setIfInBounds]
    apply List.ext_getElem?
    intro j
    simp only [List.getElem?_append, List.length_take, List.length_set, Array.length_toList, List.getElem?_take, List.getElem?_set, List.length_cons, List.getElem?_drop]
    by_cases h1 : j < off + k
    · have a1 : j < min (off + (k + 1)) cs.size := by omega
      have a2 : j < off + (k + 1) := by omega
      have a3 : j < min (off + k) cs.size := by omega
      have a4 : ¬ off + k = j := by omega
      simp only [a1, a2, a3, a4, h1, if_true, if_false]
    · by_cases h2 : j = off + k
      · subst h2
        have a1 : off + k < min (off + (k + 1)) cs.size := by omega
        have a2 : off + k < off + (k + 1) := by omega
        have a3 : ¬ off + k < min (off + k) cs.size := by omega
        have a4 : off + k < cs.size := by omega
        have a5 : off + k - min (off + k) cs.size = 0 := by omega
        simp [a1, a2, a3, a4, a5]
      · have a1 : ¬ j < min (off + (k + 1)) cs.size := by omega
        have a3 : ¬ j < min (off + k) cs.size := by omega
        simp only [a1, a3, if_false]
        have e1 : min (off + (k + 1)) cs.size = off + k + 1 := by omega
        have e2 : min (off + k) cs.size = off + k := by omega
        rw [e1, e2]
        obtain ⟨m, rfl⟩ : ∃ m, j = off + k + 1 + m := ⟨j - (off + k + 1), by omega⟩
        have e3 : off + k + 1 + m - (off + k + 1) = m := by omega
        have e4 : off + k + 1 + m - (off + k) = m + 1 := by omega
        rw [e3, e4]
        by_cases h3 : m < vs.length
        · have : m + 1 < vs.length + 1 := by omega
          simp [h3, this]
        · have : ¬ m + 1 < vs.length + 1 := by omega
          simp only [h3, this, if_false]
          have e5 : off + (k + 1) + vs.length + (m - vs.length) = off + k + (vs.length + 1) + (m + 1 - (vs.length + 1)) := by omega
          rw [e5, if_neg (by omega)]
theorem fill_step {place : Nat → Option (Nat × Nat)} {cs : Array Value} {i off n : Nat} {v : Value} {rest : List (Nat × Value)} (hp : place i = some (off, n)) (hn : v.cells.size = n) (hle : off + n ≤ cs.size) :
    Instr.fill place cs ((i, v) :: rest) = Instr.fill place (cs.toList.take off ++ (v.cells.toList ++ cs.toList.drop (off + n))).toArray rest := by
  have e := foldl_put v.cells.toList off 0 cs (by simp only [Array.length_toList]; omega)
  simp only [Instr.fill, hp]
  rw [if_neg (by simp only [Bool.or_eq_true, decide_eq_true_eq]; omega)]
  congr 1
  apply Array.toList_inj.1
  rw [← Array.foldl_toList, Array.toList_zipIdx]
  simp only [Nat.add_zero, Array.length_toList, hn] at e
  exact e
theorem bld_cons {p : Nat × Nat × Opnd} {ps : List (Nat × Nat × Opnd)} {z : List AV} {k : List AV → Bool} (h : bld (p :: ps) r z k = true) :
    okc (ov p.2.2 r) = true ∧ (cellsOf (ov p.2.2 r) (ov p.2.2 r)).length = p.2.1 ∧ p.1 + p.2.1 ≤ z.length ∧ bld ps r (z.take p.1 ++ (cellsOf (ov p.2.2 r) (ov p.2.2 r) ++ z.drop (p.1 + p.2.1))) k = true := by
  have h : chk (andF (okc (ov p.2.2 r)) (Nat.beq (lenF (cellsOf (ov p.2.2 r) (ov p.2.2 r))) p.2.1)) (over p.1 z (cellsOf (ov p.2.2 r) (ov p.2.2 r)) (fun z => bld ps r z k)) = true := h
  obtain ⟨h1, h2⟩ := chk_iff.1 h
  rw [andF_iff, Nat.beq_eq, lenF_eq] at h1
  obtain ⟨h3, h4⟩ := over_iff.1 h2
  rw [h1.2] at h3 h4
  exact ⟨h1.1, h1.2, h3, h4⟩
theorem bld_sound {place place' : Nat → Option (Nat × Nat)} (hpl : ∀ i x, place i = some x → place' i = some x) : ∀ {parts : List (Nat × Operand)} {ps : List (Nat × Nat × Opnd)} {z : List AV} {k : List AV → Bool}, cParts place parts = some ps → bld ps r z k = true →
    ∃ z', k z' = true ∧ z'.length = z.length ∧ ∀ (s : Pl) (ρ : Operand → Value) (zs : List Value), gvs s z = some zs → (∀ p ∈ parts, gv s (ov (cO p.2) r) = some (ρ p.2)) →
      ∃ zs', gvs s z' = some zs' ∧ Instr.fill place' zs.toArray (parts.map fun p => (p.1, ρ p.2)) = some zs'.toArray
  | [], ps, z, k, hp, h => by
    simp only [cParts, Option.some.injEq] at hp; subst hp
    exact ⟨z, h, rfl, fun s ρ zs hz _ => ⟨zs, hz, rfl⟩⟩
  | (i, x) :: parts, ps, z, k, hp, h => by
    simp only [cParts] at hp
    split at hp
    · rename_i off n rs h1 h2
      simp only [Option.some.injEq] at hp; subst hp
      obtain ⟨h3, h4, h5, h6⟩ := bld_cons h
      dsimp only at h3 h4 h5 h6
      obtain ⟨z', hk, hlen, hz'⟩ := bld_sound hpl h2 h6
      refine ⟨z', hk, by rw [hlen]; simp only [List.length_append, List.length_take, List.length_drop, h4]; omega, fun s ρ zs hz hr => ?_⟩
      have hx := gv_cells (hr (i, x) (by simp)) h3
      have hlz := gvs_length hz
      have hcl := gvs_length hx
      obtain ⟨zs', a1, a2⟩ := hz' s ρ _ (gvs_append (gvs_take off hz) (gvs_append hx (gvs_drop (off + n) hz))) (fun p hp => hr p (by simp [hp]))
      refine ⟨zs', a1, ?_⟩
      simp only [List.map_cons]
      rw [fill_step (hpl i _ h1) (by rw [← Array.length_toList, hcl, h4]) (by simp only [List.size_toArray]; omega)]
      exact a2
    · cases hp
theorem run_places : ∀ (fs : List Field) (w : World), (fs.all fun f => (sz P f.type).isSome) = true →
    (fs.mapM fun f => (do pure (f.offset, ← sizeOf f.type) : Sem (Nat × Nat))).run P w = .ok (fs.map fun f => (f.offset, (sz P f.type).getD 0)) w
  | [], w, _ => by simp
  | f :: fs, w, h => by
    simp only [List.all_cons, Bool.and_eq_true] at h
    obtain ⟨n, hn⟩ := Option.isSome_iff_exists.1 h.1
    simp only [List.mapM_cons, Sem.run_bind, run_sizeOf hn, Result.andThen_ok, Sem.run_pure, run_places fs w h.2, List.map_cons, hn, Option.getD_some]
theorem zeroC_spec {t : TypeId} {z : List AV} (h : zeroC P t = some z) : ∃ i v, P.info? t = some i ∧ i.zero = some v ∧ z = v.cells.toList.map ofV0 := by
  unfold zeroC at h
  split at h
  · rename_i i h1
    split at h
    · rename_i v h2; simp only [Option.some.injEq] at h; exact ⟨i, v, h1, h2, h.symm⟩
    · cases h
  · cases h
theorem gvs_zero (v : Value) : gvs s (v.cells.toList.map ofV0) = some v.cells.toList := by
  rw [gvs_map (g := id) (fun a _ => gv_ofV0 a)]; simp
theorem parts_ops {t : TypeId} {parts : Array (Nat × Operand)} (ho : o.op = .build t parts ∨ ∃ n, o.op = .buildSlice t n parts) (hr : OpR s r ρ o) : ∀ p ∈ parts.toList, gv s (ov (cO p.2) r) = some (ρ p.2) := fun p hp => hr p.2 (by
  rcases ho with ho | ⟨n, ho⟩ <;> rw [ho] <;> (simp only [Op.operands, List.mem_toArray]; exact List.mem_map.2 ⟨p, hp, rfl⟩))
theorem parts_map (parts : Array (Nat × Operand)) (ρ : Operand → Value) : (parts.map fun (i, x) => (i, ρ x)).toList = parts.toList.map fun p => (p.1, ρ p.2) := by simp
theorem pure_build {t : TypeId} {parts : Array (Nat × Operand)} {fs : Array Field} {z : List AV} {ps : List (Nat × Nat × Opnd)} (ho : o.op = .build t parts) (hu : P.underlying t = some (.struct fs)) (hz : zeroC P t = some z)
    (hf : (fs.all fun f => (sz P f.type).isSome) = true) (hp : cParts (fun i => match fs[i]? with | some f => (match sz P f.type with | some s => some (f.offset, s) | none => none) | none => none) parts.toList = some ps) : Pure0 P o d (.build d z ps) := fun cl ih r D H h => by
  have h : bld ps r z (fun z => ih (put d (.agg z) r) D H) = true := h
  obtain ⟨z', h, _, hb⟩ := bld_sound (place' := ((fs.map fun f => (f.offset, (sz P f.type).getD 0))[·]?)) (fun i x e => by
    split at e
    · rename_i f h1
      split at e
      · rename_i n h2
        simp only [Option.some.injEq] at e; subst e
        simp [h1, h2]
      · cases e
    · cases e) hp h
  refine ⟨_, h, fun s ρ hr => ?_⟩
  obtain ⟨i, v, h1, h2, rfl⟩ := zeroC_spec hz
  obtain ⟨zs', a1, a2⟩ := hb s ρ _ (gvs_zero v) (parts_ops (.inl ho) hr)
  refine ⟨.agg zs'.toArray, by simp only [gv]; rw [a1], fun w => ?_⟩
  have hpl : (fs.mapM fun f => (do pure (f.offset, ← sizeOf f.type) : Sem (Nat × Nat))).run P w = .ok (fs.map fun f => (f.offset, (sz P f.type).getD 0)) w := by
    rw [Array.mapM_eq_mapM_toList, Sem.run_map, run_places fs.toList w (by simpa using hf)]
    simp only [Result.andThen_ok, ← Array.toList_map, Array.toArray_toList]
  simp only [execOp, ho, Instr.build, Sem.run_bind, run_zeroValue h1 h2, Result.andThen_ok, run_underlying hu, hpl, parts_map]
  rw [show v.cells.toList.toArray = v.cells by simp] at a2
  rw [a2]
  rfl
theorem pure_builda {t e : TypeId} {n m : Nat} {parts : Array (Nat × Operand)} {z : List AV} {ps : List (Nat × Nat × Opnd)} (ho : o.op = .build t parts) (hu : P.underlying t = some (.array n e)) (hz : zeroC P t = some z)
    (hs : sz P e = some m) (hp : cParts (fun i => some (i * m, m)) parts.toList = some ps) : Pure0 P o d (.build d z ps) := fun cl ih r D H h => by
  have h : bld ps r z (fun z => ih (put d (.agg z) r) D H) = true := h
  obtain ⟨z', h, _, hb⟩ := bld_sound (place' := (fun i => some (i * m, m))) (fun i x e => e) hp h
  refine ⟨_, h, fun s ρ hr => ?_⟩
  obtain ⟨i, v, h1, h2, rfl⟩ := zeroC_spec hz
  obtain ⟨zs', a1, a2⟩ := hb s ρ _ (gvs_zero v) (parts_ops (.inl ho) hr)
  refine ⟨.agg zs'.toArray, by simp only [gv]; rw [a1], fun w => ?_⟩
  simp only [execOp, ho, Instr.build, Sem.run_bind, run_zeroValue h1 h2, Result.andThen_ok, run_underlying hu, run_sizeOf hs, parts_map]
  rw [show v.cells.toList.toArray = v.cells by simp] at a2
  rw [a2]
  rfl
/-! What makes memory. -/
def Alloc0 (P : Program) (o : Oper) (d : Dst) (x : XO) : Prop := ∀ cl ih r D H, step P x cl ih r D H = true → ∃ (blk : Blk) (mk : Id → AV), alloc H blk (fun i H => ih (put d (mk i) r) D H) = true ∧
  ∀ (s : Pl) ρ, OpR s r ρ o → ∀ w : World, ∃ obj w' u L, (execOp ρ o).run P w = .ok (.value u) w' ∧ w'.heap = w.heap.push obj ∧ w'.os = w.os ∧ w'.tape = w.tape ∧ w'.output = w.output ∧ L.b = w.heap.size ∧
    BlkRel P s L blk (some obj) ∧ ∀ (s' : Pl) i, s' i = some L → gv s' (mk i) = some u
theorem rel_exact {e : TypeId} {l : List AV} {vs : List Value} (b : Nat) (h : gvs s l = some vs) : BlkRel P s ⟨b, 0, 0, 0⟩ (.cells true e l) (some (.cells vs.toArray e)) := by
  refine ⟨vs.toArray, (0, 0), rfl, fun j a e => ?_, fun o _ h => by omega, fun _ => ⟨rfl, by simp [gvs_length h]⟩, by simp, fun h => absurd rfl h⟩
  obtain ⟨u, h1, h2⟩ := gvs_get h e
  exact ⟨u, h2, by simpa using h1⟩
theorem alloc_new {e : TypeId} {z : List AV} (ho : o.op = .alloc e) (hz : zeroC P e = some z) : Alloc0 P o d (.new d e z) := fun cl ih r D H h => by
  have h : alloc H (.cells true e z) (fun i H => ih (put d (.ptr i 0) r) D H) = true := h
  obtain ⟨i, v, h1, h2, rfl⟩ := zeroC_spec hz
  refine ⟨_, fun i => .ptr i 0, h, fun s ρ hr w => ⟨_, w.alloc (.cells v.cells e), _, ⟨w.heap.size, 0, 0, 0⟩, ?_, rfl, rfl, rfl, rfl, rfl, by simpa using rel_exact (e := e) _ (gvs_zero v), fun s' i e => by simp only [gv, e, Option.map_some]; rfl⟩⟩
  simp only [execOp, ho, Instr.alloc, Sem.run_bind, run_zeroValue h1 h2, Result.andThen_ok, newVar, newRow, run_newObj, Sem.run_pure]
  rfl
theorem alloc_box {e : TypeId} {x : Operand} (ho : o.op = .box e x) : Alloc0 P o d (.box d e (cO x)) := fun cl ih r D H h => by
  have h : chk (okc (ov (cO x) r)) (alloc H (.cells true e (cellsOf (ov (cO x) r) (ov (cO x) r))) (fun i H => ih (put d (.ptr i 0) r) D H)) = true := h
  obtain ⟨h1, h⟩ := chk_iff.1 h
  refine ⟨_, fun i => .ptr i 0, h, fun s ρ hr w => ?_⟩
  have hc := gv_cells (hr x (by rw [ho]; simp [Op.operands])) h1
  refine ⟨_, w.alloc (.cells (ρ x).cells e), _, ⟨w.heap.size, 0, 0, 0⟩, ?_, rfl, rfl, rfl, rfl, rfl, by simpa using rel_exact (e := e) _ hc, fun s' i e => by simp only [gv, e, Option.map_some]; rfl⟩
  simp only [execOp, ho, Instr.box, Sem.run_bind, newVar, newRow, run_newObj, Result.andThen_ok, Sem.run_pure]
  rfl
theorem gvs_reps {l : List AV} {vs : List Value} (h : gvs s l = some vs) : ∀ n, gvs s (reps n l) = some (reps n vs)
  | 0 => rfl
  | n + 1 => by
    show gvs s (app l (reps n l)) = some (app vs (reps n vs))
    rw [app_eq, app_eq]; exact gvs_append h (gvs_reps h n)
theorem reps_range (vs : List Value) (hv : vs ≠ []) : ∀ n, reps n vs = (List.range (n * vs.length)).map (fun j => vs.toArray[j % vs.toArray.size]!)
  | 0 => by simp only [Nat.zero_mul]; rfl
  | n + 1 => by
    show app vs (reps n vs) = _
    have hl : 0 < vs.length := List.length_pos_iff.2 hv
    rw [app_eq, reps_range vs hv n, Nat.succ_mul, Nat.add_comm, List.range_add, List.map_append, List.map_map]
    congr 1
    · apply List.ext_getElem (by simp)
      intro j h1 h2
      simp only [List.length_map, List.length_range] at h2
      simp [Nat.mod_eq_of_lt h2, h1]
    · apply List.map_congr_left
      intro j _
      simp [Nat.add_mod_left]
theorem cells_reps {v : Value} {n m : Nat} (hm : v.cells.toList.length = m) (hz : n * m ≠ 0) : ((Array.range (n * m)).map fun j => v.cells[j % v.cells.size]!) = (reps n v.cells.toList).toArray := by
  have : v.cells.toList ≠ [] := fun e => by rw [e] at hm; simp at hm; subst hm; simp at hz
  rw [reps_range _ this, hm]
  apply Array.toList_inj.1
  simp
theorem cells_reps0 {v : Value} {n m : Nat} {w : World} (hm : v.cells.toList.length = m) {e : TypeId} {i : TypeInfo} (h1 : P.info? e = some i) (h2 : i.zero = some v) :
    (do let zero ← if n * m = 0 then (pure #[] : Sem (Array Value)) else do pure (← zeroValue e).cells
        pure ((Array.range (n * m)).map (zero[· % zero.size]!)) : Sem (Array Value)).run P w = .ok (reps n v.cells.toList).toArray w := by
  by_cases hz : n * m = 0
  · have e0 : reps n v.cells.toList = [] := List.length_eq_zero_iff.1 (by rw [reps_length, hm]; exact hz)
    rw [e0]; simp [hz]
  · simp only [hz, if_false, Sem.run_bind, run_zeroValue h1 h2, Result.andThen_ok, Sem.run_pure]
    rw [cells_reps hm hz]
theorem alloc_bslice {t e : TypeId} {n m : Nat} {parts : Array (Nat × Operand)} {z : List AV} {ps : List (Nat × Nat × Opnd)} (ho : o.op = .buildSlice t n parts) (hu : P.underlying t = some (.slice e)) (hz : zeroC P e = some z) (hl : z.length = m)
    (hle : n * m ≤ 16777216) (hs : sz P e = some m) (hp : cParts (fun i => some (i * m, m)) parts.toList = some ps) : Alloc0 P o d (.bslice d e z n ps) := fun cl ih r D H h => by
  have h : bld ps r (reps n z) (fun z => alloc H (.cells true e z) (fun i H => ih (put d (.slice i 0 n 0 n) r) D H)) = true := h
  obtain ⟨z', h, _, hb⟩ := bld_sound (place' := (fun i => some (i * m, m))) (fun i x e => e) hp h
  refine ⟨_, fun i => .slice i 0 n 0 n, h, fun s ρ hr w => ?_⟩
  obtain ⟨i, v, h1, h2, rfl⟩ := zeroC_spec hz
  obtain ⟨zs', a1, a2⟩ := hb s ρ _ (gvs_reps (gvs_zero v) n) (parts_ops (.inr ⟨n, ho⟩) hr)
  refine ⟨_, w.alloc (.cells zs'.toArray e), _, ⟨w.heap.size, 0, 0, 0⟩, ?_, rfl, rfl, rfl, rfl, rfl, rel_exact _ a1, fun s' i e => by simp only [gv, e, Option.map_some]; rfl⟩
  have hle' : ¬ n * m > 2 ^ 24 := by omega
  have hm : v.cells.toList.length = m := by simpa using hl
  simp only [execOp, ho, Instr.buildSlice, Sem.run_bind, run_underlying hu, Result.andThen_ok, run_sizeOf hs, parts_map]
  rw [if_neg hle']
  by_cases hz0 : n * m = 0
  · have e0 : reps n v.cells.toList = [] := List.length_eq_zero_iff.1 (by rw [reps_length, hm]; exact hz0)
    rw [e0] at a2
    simp only [hz0, if_true, Sem.run_bind, Sem.run_pure, Result.andThen_ok]
    rw [show (Array.map (fun x => (#[] : Array Value)[x % (#[] : Array Value).size]!) (Array.range 0)) = ([] : List Value).toArray from by simp, a2]
    rfl
  · simp only [hz0, if_false, Sem.run_bind, run_zeroValue h1 h2, Sem.run_pure, Result.andThen_ok]
    rw [cells_reps hm hz0, a2]
    rfl
theorem asInt_run {k : IntKind} {n : Int} (w : World) : (asInt (.int k n)).run P w = .ok n w := by simp [asInt, asIntOf]
theorem alloc_mkmap {t : TypeId} {h' : Option Operand} {k e : TypeId} (ho : o.op = .makeMap t h') (hu : P.underlying t = some (.map k e)) : Alloc0 P o d (.mkmap d (cOo h')) := fun cl ih r D H h => by
  have h : optI (cOo h') r (alloc H (.map [] 0) (fun i H => ih (put d (.map i) r) D H)) = true := h
  have key : alloc H (.map [] 0) (fun i H => ih (put d (.map i) r) D H) = true ∧ ∀ (s : Pl) ρ, OpR s r ρ o → ∀ x, h' = some x → ∃ k n, ρ x = .int k n := by
    cases h' with
    | none => exact ⟨h, fun _ _ _ x e => by cases e⟩
    | some y =>
      obtain ⟨j, n, e, h⟩ := onInt_iff.1 (show onInt (ov (cO y) r) (fun _ _ => _) = true from h)
      refine ⟨h, fun s ρ hr x e' => ?_⟩
      cases e'
      exact ⟨j, n, gvv_int (hr y (by rw [ho]; simp [Op.operands])) e⟩
  refine ⟨_, fun i => .map i, key.1, fun s ρ hr w => ?_⟩
  refine ⟨_, w.alloc (.map #[] 0), _, ⟨w.heap.size, 0, 0, 0⟩, ?_, rfl, rfl, rfl, rfl, rfl, ⟨#[], rfl, trivial⟩, fun s' i e => by simp only [gv, e, Option.map_some]; rfl⟩
  cases h' with
  | none => simp only [execOp, ho, Instr.makeMap, Option.map_none, Sem.run_bind, run_newObj, Result.andThen_ok, Sem.run_pure]; rfl
  | some y =>
    obtain ⟨j, n, e'⟩ := key.2 s ρ hr y rfl
    simp only [execOp, ho, Instr.makeMap, Option.map_some, Sem.run_bind, run_underlying hu, e', asInt_run, run_newObj, Result.andThen_ok, Sem.run_pure]; rfl
theorem wrap64_small {n : Nat} (h : n < 2 ^ 62) : IntKind.i64.wrap (Int.ofNat n) = Int.ofNat n := wrap_ofNat (by simp only [bndR]; omega)
theorem alloc_mkslice {t e : TypeId} {m : Nat} {l c : Operand} {z : List AV} (ho : o.op = .makeSlice t l c) (hu : P.underlying t = some (.slice e)) (hz : zeroC P e = some z) (hl : z.length = m) (hs : sz P e = some m) (hb : smallB P e = true) :
    Alloc0 P o d (.mkslice d e z (cO l) (cO c)) := fun cl ih r D H h => by
  have h : onInt (ov (cO l) r) (fun _ l => onInt (ov (cO c) r) (fun _ c => onNat l (fun l => onNat c (fun c => chk (Nat.ble l c) (chk (Nat.blt c 1048576) (alloc H (.cells true e (reps c z)) (fun i H => ih (put d (.slice i 0 l 0 c) r) D H))))))) = true := h
  obtain ⟨j, n', el, k1⟩ := onInt_iff.1 h
  obtain ⟨k, q', ec, k2⟩ := onInt_iff.1 k1
  obtain ⟨n, en, k3⟩ := onNat_iff.1 k2
  obtain ⟨q, eq, k4⟩ := onNat_iff.1 k3
  rw [en] at el
  rw [eq] at ec
  obtain ⟨h3, k5⟩ := chk_iff.1 k4
  obtain ⟨h4, k6⟩ := chk_iff.1 k5
  have h3 := Nat.le_of_ble_eq_true h3
  rw [Nat.blt_eq] at h4
  refine ⟨_, fun i => .slice i 0 n 0 q, k6, fun s ρ hr w => ?_⟩
  obtain ⟨i, v, h1, h2, rfl⟩ := zeroC_spec hz
  have e1 := gvv_int (hr l (by rw [ho]; simp [Op.operands])) el
  have e2 := gvv_int (hr c (by rw [ho]; simp [Op.operands])) ec
  refine ⟨_, w.alloc (.cells (reps q v.cells.toList).toArray e), _, ⟨w.heap.size, 0, 0, 0⟩, ?_, rfl, rfl, rfl, rfl, rfl, rel_exact _ (gvs_reps (gvs_zero v) q), fun s' i e => by simp only [gv, e, Option.map_some]; rfl⟩
  have hm : v.cells.toList.length = m := by simpa using hl
  have hby : i.bytes < 65536 := by unfold smallB at hb; rw [h1] at hb; rwa [Nat.blt_eq] at hb
  have hbig : ∀ x : Nat, x < 1048576 → ¬ ((i.bytes : Int) * (x : Int) > 2 ^ 48) := fun x hx => by
    have : i.bytes * x ≤ 65536 * 1048576 := Nat.mul_le_mul (by omega) (by omega)
    have h5 : ((i.bytes : Int) * (x : Int)) = ((i.bytes * x : Nat) : Int) := by simp
    rw [h5]; omega
  have f1 : (decide ((q : Int) < 0) || decide ((i.bytes : Int) * (q : Int) > 2 ^ 48)) = false := by
    rw [Bool.or_eq_false_iff, decide_eq_false_iff_not, decide_eq_false_iff_not]; exact ⟨by omega, hbig q h4⟩
  have hc := cells_reps0 (P := P) (n := q) (w := w) hm h1 h2
  have hw1 : IntKind.i64.wrap (n : Int) = n := wrap64_small (n := n) (by omega)
  have hw2 : IntKind.i64.wrap (q : Int) = q := wrap64_small (n := q) (by omega)
  simp only [execOp, ho, e1, e2, Instr.makeSlice, Sem.run_bind, run_underlying hu, asInt_run, typeInfo, run_program, h1, Result.andThen_ok, Sem.run_pure, Int.ofNat_eq_natCast, hw1, hw2]
  have f2 : ((decide ((q : Int) < 0) || decide ((i.bytes : Int) * (q : Int) > 2 ^ 48)) || decide ((n : Int) < 0) || decide ((n : Int) > (q : Int))) = false := by
    rw [f1]; simp only [Bool.false_or, Bool.or_eq_false_iff, decide_eq_false_iff_not]; omega
  rw [if_neg (by rw [f2]; simp)]
  simp only [Sem.run_bind, Sem.run_pure, Result.andThen_ok, run_askRoom, run_sizeOf hs, Int.toNat_natCast]
  by_cases hz0 : q * m = 0
  · have e0 : reps q v.cells.toList = [] := List.length_eq_zero_iff.1 (by rw [reps_length, hm]; exact hz0)
    rw [e0]
    simp only [hz0, if_true, Sem.run_bind, Sem.run_pure, Result.andThen_ok, newRow, run_newObj]
    rw [show (Array.map (fun x => (#[] : Array Value)[x % (#[] : Array Value).size]!) (Array.range 0)) = ([] : List Value).toArray from by simp]
    rfl
  · simp only [hz0, if_false, Sem.run_bind, run_zeroValue h1 h2, Sem.run_pure, Result.andThen_ok]
    rw [cells_reps hm hz0]
    simp only [newRow, Sem.run_bind, run_newObj, Result.andThen_ok, Sem.run_pure]
    rfl
theorem alloc_rngs {t : TypeId} {x : Operand} (ho : o.op = .range t x) (hu : P.underlying t = some .string) : Alloc0 P o d (.rngs d (cO x)) := fun cl ih r D H h => by
  have h : onStr (ov (cO x) r) (fun s => alloc H (.siter s 0) (fun i H => ih (put d (.ptr i 0) r) D H)) = true := h
  obtain ⟨b, e, h⟩ := onStr_iff.1 h
  refine ⟨_, fun i => .ptr i 0, h, fun s ρ hr w => ?_⟩
  obtain ⟨hb, ex⟩ := gvv_str (hr x (by rw [ho]; simp [Op.operands])) e
  refine ⟨_, w.alloc (.stringIter ⟨(b.map UInt8.ofNat).toArray⟩ 0), _, ⟨w.heap.size, 0, 0, 0⟩, ?_, rfl, rfl, rfl, rfl, rfl, ⟨rfl, hb, rfl⟩, fun s' i e => by simp only [gv, e, Option.map_some]; rfl⟩
  simp only [execOp, ho, ex, strV, Instr.range, Sem.run_bind, run_underlying hu, run_newObj, Result.andThen_ok, Sem.run_pure]; rfl
theorem modify_push {α : Type} (a : Array α) (x : α) (f : α → α) : (a.push x).modify a.size f = a.push (f x) := by
  apply Array.ext_getElem?
  intro i
  rw [Array.getElem?_modify, Array.getElem?_push, Array.getElem?_push]
  by_cases h : i = a.size
  · subst h; simp
  · have h' : ¬ a.size = i := fun e => h e.symm
    simp [h, h']
theorem alloc_cvsb {a t e : TypeId} {x : Operand} (ho : o.op = .convert a t x) (ha : P.underlying a = some .string) (ht : P.underlying t = some (.slice e)) (he : P.underlying e = some (.int .u8)) (hs : sz P e = some 1) :
    Alloc0 P o d (.cvsb e d (cO x)) := fun cl ih r D H h => by
  have h : onStr (ov (cO x) r) (fun s => alloc H (.cells false e (mapF byteV s)) (fun i H => ih (put d (.slice i 0 (lenF s) 2 0) r) D H)) = true := h
  obtain ⟨b, ex, h⟩ := onStr_iff.1 h
  rw [mapF_eq, lenF_eq] at h
  refine ⟨_, fun i => .slice i 0 b.length 2 0, h, fun s ρ hr w => ?_⟩
  obtain ⟨hb, e1⟩ := gvv_str (hr x (by rw [ho]; simp [Op.operands])) ex
  let cap := (Question.appendCap b.length 0 e).cut (w.tape w.drawn (Question.appendCap b.length 0 e))
  have hcap : b.length ≤ cap := by simp only [cap, Question.cut]; omega
  let vs : List Value := b.map fun n : Nat => Value.int .u8 (Int.ofNat n)
  let cs : Array Value := vs.toArray ++ Array.replicate (cap - b.length) (Value.int .u8 0)
  have hcs : cs.size = cap := by simp only [cs, vs, Array.size_append, List.size_toArray, List.length_map, Array.size_replicate]; omega
  refine ⟨.cells cs e (cap, cap + 1), { w with drawn := w.drawn + 1, heap := w.heap.push (.cells cs e (cap, cap + 1)) }, .slice (some ⟨w.heap.size, 0, none⟩) b.length cap, ⟨w.heap.size, 0, cap, 1⟩, ?_, rfl, rfl, rfl, rfl, rfl,
    ⟨cs, (cap, cap + 1), rfl, fun j y e' => ?_, fun q hq hh => by have := hh.1; omega, fun e' => ft e', by show 0 + cap * 1 ≤ cs.size; omega, fun _ => hs⟩, fun s' i e' => ?_⟩
  · have hd : ((ByteArray.mk (b.map UInt8.ofNat).toArray).data.map fun x => Value.int .u8 x.toNat) = vs.toArray := by
      apply Array.toList_inj.1
      simp only [vs, Array.toList_map, List.map_map]
      apply List.map_congr_left
      intro n hn
      have : n < 256 := by have := List.all_eq_true.1 hb n hn; rwa [Nat.blt_eq] at this
      simp [UInt8.toNat_ofNat', Nat.mod_eq_of_lt this]
    simp only [execOp, ho, e1, strV, convert, Sem.run_bind, run_underlying ha, run_underlying ht, run_underlying he, Result.andThen_ok, Conv.stringToBytes, strB_size, hd, run_choose, Question.forced, newRow, run_newObj, Sem.run_pure, markStringish]
    simp only [Bool.false_eq_true, if_false, Result.andThen_ok, run_shape, World.shape?]
    rw [Array.getElem?_push_size]
    simp only [run_freeze, World.freeze, Nat.one_ne_zero, if_false, modify_push, Result.andThen_ok, beq_self_eq_true, if_true]
    show Result.ok (Next.value (Value.slice _ _ cap)) { heap := w.heap.push (.cells cs e (cs.size, cs.size + 1)), tape := w.tape, drawn := w.drawn + 1, os := w.os, output := w.output } = _
    rw [hcs]
  · simp only [List.getElem?_map] at e'
    obtain ⟨n, hn, rfl⟩ := Option.map_eq_some_iff.1 e'
    refine ⟨.int .u8 (Int.ofNat n), rfl, ?_⟩
    have hj : j < b.length := (List.getElem?_eq_some_iff.1 hn).1
    simp only [Nat.zero_add, cs]
    rw [Array.getElem?_append_left (by simp [vs, hj])]
    simp [vs, hn]
  · simp only [gv, e', Option.bind_some]
    rw [if_pos (by simp; exact hcap)]
    rfl
end
end Go.Xe
