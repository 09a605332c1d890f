/- Loads, stores; how an operation is told. -/
import Derived.Test.YtphdffebnjekdaaGreatXeA
import Derived.DefersIn
import Derived.RangeFuncIn
namespace Go.Xe
open Go
def fz (ro : Option Nat) : Fence := { fn := fun _ => True, alive := false, round := ro }
def DL (s : Pl) : List DE → List Deferred → Prop
  | [], [] => True
  | .call v args :: l, d :: ds => (∃ f first cap, v = .func f first cap ∧ ∃ fv av cv, gvs s first = some fv ∧ gvs s args = some av ∧ gvs s cap = some cv ∧ d = { target := .fn (.func f.toNat) cv.toArray, args := (fv ++ av).toArray }) ∧ DL s l ds
  | .mark b :: l, d :: ds => (∃ L, s b = some L ∧ d = { target := .collected L.b, args := #[] }) ∧ DL s l ds
  | _, _ => False
def DRel (s : Pl) (ro : Option Nat) : Dfr → List Deferred → Prop
  | .fn l, ds => ro = none ∧ DL s l ds
  | .round, _ => ro.isSome = true
theorem DL.mono {s t : Pl} (h : s.le t) : ∀ {l : List DE} {ds : List Deferred}, DL s l ds → DL t l ds
  | [], [], _ => trivial
  | .call _ _ :: _, _ :: _, ⟨⟨f, a, b, e, x, y, z, h1, h2, h3, h4⟩, h5⟩ => ⟨⟨f, a, b, e, x, y, z, gvs_mono h h1, gvs_mono h h2, gvs_mono h h3, h4⟩, DL.mono h h5⟩
  | .mark b :: _, _ :: _, ⟨⟨L, h1, h2⟩, h5⟩ => ⟨⟨L, h b L h1, h2⟩, DL.mono h h5⟩
  | [], _ :: _, h => h.elim
  | .call .. :: _, [], h => h.elim
  | .mark _ :: _, [], h => h.elim
theorem DRel.mono {s t : Pl} {ro : Option Nat} (h : s.le t) {D : Dfr} {ds : List Deferred} (k : DRel s ro D ds) : DRel t ro D ds := by
  cases D with
  | fn l => exact ⟨k.1, k.2.mono h⟩
  | round => exact k
/-- What is asked of an operation: it comes to v, and to the memory H', from wherever the executor's memory lies. -/
def Full (P : Program) (cl : CallT) (o : Oper) (d : Dst) (x : XO) : Prop := ∀ ih r D H, step P x cl ih r D H = true → ∃ v D' H', ih (put d v r) D' H' = true ∧
  ∀ ro (s : Pl) (w : World) (a : Act) Q, Rel P s H w → OpR s r a.eval o → DRel s ro D a.defers →
    o.wpIn (fz ro) 0 P a w (fun a' w' => ∃ u s' ds, a' = ({ a with defers := ds } : Act).put o.dst u ∧ gv s' v = some u ∧ Ev P s H w s' H' w' ∧ DRel s' ro D' ds) Q
section
variable {P : Program} {cl : CallT} {o : Oper} {d : Dst} {s : Pl} {ρ : Operand → Value} {r : Regs} {x : XO}
theorem wpIn_run {ro : Option Nat} {a : Act} {w w' : World} {u : Value} {K : Act → World → Prop} {Q : Exit → Act → World → Prop} (hd : ∀ c, o.op ≠ .defer c) (h : (execOp a.eval o).run P w = .ok (.value u) w') (hk : K (a.put o.dst u) w') :
    o.wpIn (fz ro) 0 P a w K Q := ⟨fun _ _ => trivial, by rw [Oper.semAt_eq _ _ _ hd, h]; exact hk⟩
theorem wpIn_skip' {ro : Option Nat} {a : Act} {w w' : World} {K : Act → World → Prop} {Q : Exit → Act → World → Prop} (hd : ∀ c, o.op ≠ .defer c) (h : (execOp a.eval o).run P w = .ok .skip w') (hk : K (a.put o.dst undef) w') :
    o.wpIn (fz ro) 0 P a w K Q := ⟨fun _ _ => trivial, by rw [Oper.semAt_eq _ _ _ hd, h]; exact hk⟩
theorem Pure0.full (hd : ∀ c, o.op ≠ .defer c) (h : Pure0 P o d x) : Full P cl o d x := fun ih r D H hs => by
  obtain ⟨v, h1, h2⟩ := h cl ih r D H hs
  refine ⟨v, D, H, h1, fun ro s w a Q hR hO hD => ?_⟩
  obtain ⟨u, h3, h4⟩ := h2 s a.eval hO
  exact wpIn_run hd (h4 w) ⟨u, s, a.defers, rfl, h3, .refl hR, hD⟩
theorem Alloc0.full (hd : ∀ c, o.op ≠ .defer c) (h : Alloc0 P o d x) : Full P cl o d x := fun ih r D H hs => by
  obtain ⟨blk, mk, h1, h2⟩ := h cl ih r D H hs
  obtain ⟨H', h3, h4, h5⟩ := alloc_iff h1
  refine ⟨mk H.nx, D, H', h5, fun ro s w a Q hR hO hD => ?_⟩
  obtain ⟨obj, w', u, L, e1, e2, e3, e4, e5, e6, e7, e8⟩ := h2 s a.eval hO w
  have hle := upd_le (L := L) hR.fresh
  exact wpIn_run hd e1 ⟨u, _, a.defers, rfl, e8 _ _ (upd_self ..), Ev.alloc hR h3 h4 e2 e3 e4 e5 e6 (e7.mono hle), hD.mono hle⟩
/-! Loads. -/
theorem cell_at {w : World} {b : Nat} {cs : Array Value} {e : TypeId} {f : Nat × Nat} (h : w.heap[b]? = some (.cells cs e f)) (off : Nat) : w.cell? ⟨b, off, none⟩ = cs[off]? := by
  unfold World.cell?; rw [h]; rfl
theorem run_load_at {w : World} {b off : Nat} {cs : Array Value} {e : TypeId} {f : Nat × Nat} {v : Value} (h : w.heap[b]? = some (.cells cs e f)) (hv : cs[off]? = some v) : (load ⟨b, off, none⟩).run P w = .ok v w := by
  rw [run_load, cell_at h, hv]
theorem run_loadCells_at {w : World} {b off : Nat} {cs : Array Value} {e : TypeId} {f : Nat × Nat} {vs : List Value} (h : w.heap[b]? = some (.cells cs e f)) (hv : ∀ j v, vs[j]? = some v → cs[off + j]? = some v) :
    (loadCells ⟨b, off, none⟩ vs.length).run P w = .ok vs.toArray w :=
  run_loadCells_list w _ vs fun j v e => by rw [addr_add, cell_at h]; exact hv j v e
/-- Cells of a block, as they lie. -/
theorem rel_cells {L : Loc} {ex : Bool} {e : TypeId} {l : List AV} {ob : Option Obj} (h : BlkRel P s L (.cells ex e l) ob) (off n : Nat) (hle : off + n ≤ l.length) :
    ∃ vs cs f, gvs s ((l.drop off).take n) = some vs ∧ vs.length = n ∧ ob = some (.cells cs e f) ∧ ∀ j v, vs[j]? = some v → cs[L.base + off + j]? = some v := by
  obtain ⟨cs, f, h1, h2, _⟩ := h
  obtain ⟨vs, hvs⟩ := gvs_of (s := s) (l := (l.drop off).take n) fun j a e => by
    rw [List.getElem?_take] at e
    split at e
    · rw [List.getElem?_drop] at e; obtain ⟨u, h3, _⟩ := h2 _ a e; exact ⟨u, h3⟩
    · cases e
  refine ⟨vs, cs, f, hvs, ?_, h1, fun j v e => ?_⟩
  · rw [gvs_length hvs, List.length_take, List.length_drop]; omega
  · obtain ⟨a, h3, h4⟩ := gvs_get' hvs e
    rw [List.getElem?_take] at h3
    split at h3
    · rw [List.getElem?_drop] at h3
      obtain ⟨u, h5, h6⟩ := h2 _ a h3
      rw [h4] at h5; cases h5
      rwa [Nat.add_assoc]
    · cases h3
theorem rel_cell {L : Loc} {ex : Bool} {e : TypeId} {l : List AV} {ob : Option Obj} {off : Nat} {a : AV} (h : BlkRel P s L (.cells ex e l) ob) (ha : l[off]? = some a) : ∃ v cs f, gv s a = some v ∧ ob = some (.cells cs e f) ∧ cs[L.base + off]? = some v := by
  obtain ⟨cs, f, h1, h2, _⟩ := h
  obtain ⟨u, h3, h4⟩ := h2 _ a ha
  exact ⟨u, cs, f, h3, h1, h4⟩
theorem atCells_iff {i : Id} {H : Heap} {k : Bool → TypeId → List AV → Bool} : atCells i H k = true ↔ ∃ ex e l, hget H i = some (.cells ex e l) ∧ k ex e l = true := by
  unfold atCells
  rw [onSome_iff]
  constructor
  · rintro ⟨b, h1, h2⟩
    obtain ⟨ex, e, l, rfl, h3⟩ := bCells_iff.1 h2
    exact ⟨ex, e, l, h1, h3⟩
  · rintro ⟨ex, e, l, h1, h2⟩; exact ⟨_, h1, h2⟩
theorem atMap_iff {i : Id} {H : Heap} {k : List (AV × AV × Nat) → Nat → Bool} : atMap i H k = true ↔ ∃ es c, hget H i = some (.map es c) ∧ k es c = true := by
  unfold atMap
  rw [onSome_iff]
  constructor
  · rintro ⟨b, h1, h2⟩
    obtain ⟨es, c, rfl, h3⟩ := bMap_iff.1 h2
    exact ⟨es, c, h1, h3⟩
  · rintro ⟨es, c, h1, h2⟩; exact ⟨_, h1, h2⟩
/-- A load, as the executor takes it of a memory. -/
theorem ldAt_none {a : Operand} {H : Heap} {k : AV → Bool} (h : ldAt (cO a) none r H k = true) : ∃ i off ex e l v, ov (cO a) r = .ptr i off ∧ hget H i = some (.cells ex e l) ∧ l[off]? = some v ∧ k v = true := by
  obtain ⟨i, off, h1, h⟩ := onPtr_iff.1 (show onPtr (ov (cO a) r) (fun i off => atCells i H (fun _ _ l => nth off l k)) = true from h)
  obtain ⟨ex, e, l, h2, h⟩ := atCells_iff.1 h
  obtain ⟨v, h3, h⟩ := nth_iff.1 h
  exact ⟨i, off, ex, e, l, v, h1, h2, h3, h⟩
theorem ldAt_some {a : Operand} {n : Nat} {H : Heap} {k : AV → Bool} (h : ldAt (cO a) (some n) r H k = true) : ∃ i off ex e l, ov (cO a) r = .ptr i off ∧ hget H i = some (.cells ex e l) ∧ off + n ≤ l.length ∧ k (.agg ((l.drop off).take n)) = true := by
  obtain ⟨i, off, h1, h⟩ := onPtr_iff.1 (show onPtr (ov (cO a) r) (fun i off => atCells i H (fun _ _ l => cut off l (fun _ q => cut n q (fun c _ => k (.agg c))))) = true from h)
  obtain ⟨ex, e, l, h2, h⟩ := atCells_iff.1 h
  obtain ⟨h3, h⟩ := cut_iff.1 h
  obtain ⟨h4, h⟩ := cut_iff.1 h
  rw [List.length_drop] at h4
  exact ⟨i, off, ex, e, l, h1, h2, by omega, h⟩
/-- A load: of a memory that the executor has, wherever it lies. -/
def LoadR (P : Program) (o : Oper) (x : Opnd) (n : Option Nat) : Prop := ∀ (r : Regs) (H : Heap) (k : AV → Bool), ldAt x n r H k = true → ∃ v, k v = true ∧
  ∀ (s s2 : Pl) (w : World) ρ, Rel P s H w → s.le s2 → OpR s2 r ρ o → ∃ u, gv s v = some u ∧ (execOp ρ o).run P w = .ok (.value u) w
theorem load_one {t : TypeId} {u : TypeDesc} {a : Operand} (ho : o.op = .load t a) (hu : P.underlying t = some u) (hg : isAggD u = false) : LoadR P o (cO a) none := fun r H k h => by
  obtain ⟨i, off, ex, e, l, v, h1, h2, h3, h⟩ := ldAt_none h
  refine ⟨v, h, fun s s2 w ρ hR hle hO => ?_⟩
  obtain ⟨L, hL, ea⟩ := gvv_ptr (hO a (by rw [ho]; simp [Op.operands])) h1
  obtain ⟨L', hL', hB⟩ := hR.blk i _ h2
  rw [hle i L' hL'] at hL; cases hL
  obtain ⟨y, cs, f, e1, e2, e3⟩ := rel_cell hB h3
  refine ⟨y, e1, ?_⟩
  simp only [execOp, ho, ea, Instr.loadAt, Instr.sureAddr, Sem.run_bind, Sem.run_pure, Result.andThen_ok, loadVar, run_isAgg hu, hg, Bool.false_eq_true, if_false, run_load_at e2 e3]
theorem load_agg {t : TypeId} {u : TypeDesc} {a : Operand} {n : Nat} (ho : o.op = .load t a) (hu : P.underlying t = some u) (hg : isAggD u = true) (hn : sz P t = some n) : LoadR P o (cO a) (some n) := fun r H k h => by
  obtain ⟨i, off, ex, e, l, h1, h2, h3, h⟩ := ldAt_some h
  refine ⟨_, h, fun s s2 w ρ hR hle hO => ?_⟩
  obtain ⟨L, hL, ea⟩ := gvv_ptr (hO a (by rw [ho]; simp [Op.operands])) h1
  obtain ⟨L', hL', hB⟩ := hR.blk i _ h2
  rw [hle i L' hL'] at hL; cases hL
  obtain ⟨vs, cs, f, e1, e2, e3, e4⟩ := rel_cells hB off n h3
  refine ⟨.agg vs.toArray, by simp only [gv]; rw [e1], ?_⟩
  have := run_loadCells_at (P := P) e3 e4
  rw [e2] at this
  simp only [execOp, ho, ea, Instr.loadAt, Instr.sureAddr, Sem.run_bind, Sem.run_pure, Result.andThen_ok, loadVar, run_isAgg hu, hg, if_true, run_sizeOf hn, this]
theorem LoadR.full {y : Opnd} {n : Option Nat} (hd : ∀ c, o.op ≠ .defer c) (h : LoadR P o y n) (hx : ∀ ih r D H, step P x cl ih r D H = ldAt y n r H (fun v => ih (put d v r) D H)) : Full P cl o d x := fun ih r D H hs => by
  rw [hx] at hs
  obtain ⟨v, h1, h2⟩ := h r H _ hs
  refine ⟨v, D, H, h1, fun ro s w a Q hR hO hD => ?_⟩
  obtain ⟨u, h3, h4⟩ := h2 s s w a.eval hR (.refl s) hO
  exact wpIn_run hd h4 ⟨u, s, a.defers, rfl, h3, .refl hR, hD⟩
/-! Stores. -/
theorem heap_setCell {w : World} {b off : Nat} {cs : Array Value} {e : TypeId} {f : Nat × Nat} (v : Value) (h : w.heap[b]? = some (.cells cs e f)) : (w.setCell ⟨b, off, none⟩ v).heap[b]? = some (.cells (cs.setIfInBounds off v) e f) := by
  simp only [World.setCell, Array.getElem?_modify, if_true, h]; rfl
theorem fr_setCell {w : World} {b off : Nat} (v : Value) : Fr (fun β => β = b) w (w.setCell ⟨b, off, none⟩ v) :=
  ⟨rfl, rfl, rfl, by simp, fun k _ hk => by simp only [World.setCell, Array.getElem?_modify, if_neg (fun e => hk (Eq.symm e))]⟩
theorem Fr.trans' {A : Nat → Prop} {a b c : World} (h : Fr A a b) (k : Fr A b c) : Fr A a c :=
  ⟨k.os.trans h.os, k.tape.trans h.tape, k.output.trans h.output, Nat.le_trans h.size k.size, fun i hi hn => (k.block i (Nat.lt_of_lt_of_le hi h.size) hn).trans (h.block i hi hn)⟩
theorem run_storeCells {b : Nat} {e : TypeId} {f : Nat × Nat} (off : Nat) : ∀ (vs : List Value) (i : Nat) (w : World) (cs : Array Value), w.heap[b]? = some (.cells cs e f) → off + i + vs.length ≤ cs.size → (∀ q, q < cs.size → ¬(f.1 ≤ q ∧ q < f.2)) →
    (∀ v ∈ vs, v.oneCell' = true) → ∃ w' cs', (storeCells ⟨b, off, none⟩ vs i).run P w = .ok () w' ∧ w'.heap[b]? = some (.cells cs' e f) ∧ cs'.size = cs.size ∧
      (∀ j, cs'[j]? = if off + i ≤ j ∧ j < off + i + vs.length then vs[j - (off + i)]? else cs[j]?) ∧ Fr (fun β => β = b) w w'
  | [], i, w, cs, hb, _, _, _ => ⟨w, cs, rfl, hb, rfl, fun j => by rw [if_neg (by simp only [List.length_nil]; omega)], .refl _ _⟩
  | v :: vs, i, w, cs, hb, hle, hf, h1 => by
    simp only [List.length_cons] at hle
    have hc : w.cell? ⟨b, off + i, none⟩ = some cs[off + i] := by rw [cell_at hb, Array.getElem?_eq_getElem (by omega)]
    have hfr : w.frozen? ⟨b, off + i, none⟩ = false := by
      unfold World.frozen?
      rw [hb]
      have := hf (off + i) (by omega)
      simp only [Bool.and_eq_false_iff, decide_eq_false_iff_not]
      by_cases h2 : f.1 ≤ off + i
      · exact .inr (fun h3 => this ⟨h2, h3⟩)
      · exact .inl h2
    obtain ⟨w', cs', a1, a2, a3, a4, a5⟩ := run_storeCells off vs (i + 1) (w.setCell ⟨b, off + i, none⟩ v) _ (heap_setCell v hb) (by simp only [Array.size_setIfInBounds]; omega) (by simpa using hf) (fun u hu => h1 u (by simp [hu]))
    refine ⟨w', cs', ?_, a2, by rw [a3]; simp, fun j => ?_, fr_setCell v |>.trans' a5⟩
    · unfold storeCells
      simp only [Sem.run_bind, addr_add, run_store P w _ v _ (h1 v (by simp)), hc, hfr, Bool.false_eq_true, if_false, Result.andThen_ok, a1]
    · rw [a4]
      by_cases h2 : off + (i + 1) ≤ j ∧ j < off + (i + 1) + vs.length
      · rw [if_pos h2, if_pos (by simp only [List.length_cons]; omega)]
        obtain ⟨m, rfl⟩ : ∃ m, j = off + i + 1 + m := ⟨j - (off + i + 1), by omega⟩
        rw [show off + i + 1 + m - (off + (i + 1)) = m by omega, show off + i + 1 + m - (off + i) = m + 1 by omega]
        rfl
      · rw [if_neg h2]
        by_cases h3 : j = off + i
        · subst h3
          rw [if_pos (by simp only [List.length_cons]; omega)]
          simp [show off + i < cs.size by omega]
        · rw [if_neg (by simp only [List.length_cons]; omega), Array.getElem?_setIfInBounds_ne (fun e => h3 e.symm)]
theorem getElem?_over {α : Type} (l vs : List α) (off j : Nat) (h : off + vs.length ≤ l.length) : (l.take off ++ (vs ++ l.drop (off + vs.length)))[j]? = if off ≤ j ∧ j < off + vs.length then vs[j - off]? else l[j]? := by
  have ht : (l.take off).length = off := by rw [List.length_take]; omega
  by_cases h1 : j < off
  · rw [List.getElem?_append_left (by omega), List.getElem?_take, if_pos h1, if_neg (by omega)]
  · rw [List.getElem?_append_right (by omega), ht]
    by_cases h2 : j < off + vs.length
    · rw [List.getElem?_append_left (by omega), if_pos (by omega)]
    · rw [List.getElem?_append_right (by omega), List.getElem?_drop, if_neg (by omega)]
      congr 1; omega
/-- Cells are overwritten. -/
theorem rel_over {L : Loc} {ex : Bool} {e : TypeId} {l vs : List AV} {us : List Value} {cs cs' : Array Value} {f : Nat × Nat} {off : Nat} (h : BlkRel P s L (.cells ex e l) (some (.cells cs e f))) (hus : gvs s vs = some us) (hle : off + vs.length ≤ l.length)
    (hsz : cs'.size = cs.size) (hcs : ∀ j, cs'[j]? = if L.base + off ≤ j ∧ j < L.base + off + us.length then us[j - (L.base + off)]? else cs[j]?) :
    BlkRel P s L (.cells ex e (l.take off ++ (vs ++ l.drop (off + vs.length)))) (some (.cells cs' e f)) := by
  obtain ⟨cs₀, f₀, h1, h2, h3, h4, h5, h6⟩ := h
  cases h1
  refine ⟨cs', f, rfl, fun j a ha => ?_, fun q hq => h3 q (by omega), fun hx => ?_, by omega, h6⟩
  · rw [getElem?_over l vs off j hle] at ha
    have hl := gvs_length hus
    by_cases hj : off ≤ j ∧ j < off + vs.length
    · rw [if_pos hj] at ha
      obtain ⟨u, e1, e2⟩ := gvs_get hus ha
      refine ⟨u, e2, ?_⟩
      rw [hcs, if_pos (by omega), show L.base + j - (L.base + off) = j - off by omega]
      exact e1
    · rw [if_neg hj] at ha
      obtain ⟨u, e1, e2⟩ := h2 j a ha
      refine ⟨u, e1, ?_⟩
      rw [hcs, if_neg (by omega)]
      exact e2
  · obtain ⟨a1, a2⟩ := h4 hx
    exact ⟨a1, by rw [hsz, a2]; simp only [List.length_append, List.length_take, List.length_drop]; omega⟩
theorem cell_one {a : AV} {v : Value} (h : gv s a = some v) (hc : cell a = true) : v.oneCell' = true := by
  cases a with
  | agg l => exact ft hc
  | tuple l => exact ft hc
  | lit u =>
    simp only [gv, Option.some.injEq] at h; subst h
    have hc : litOk u = true := hc
    cases u <;> first | rfl | exact ft hc
  | int _ _ | bool _ | nilp | nils => simp only [gv, Option.some.injEq] at h; subst h; rfl
  | str l => obtain ⟨_, rfl⟩ := gvv_str h rfl; rfl
  | ptr i off => obtain ⟨_, _, rfl⟩ := gvv_ptr h rfl; rfl
  | map i => obtain ⟨_, _, rfl⟩ := gvv_map h rfl; rfl
  | yield i => simp only [gv, Option.map_eq_some_iff] at h; obtain ⟨_, _, rfl⟩ := h; rfl
  | slice i off len q c => obtain ⟨_, _, _, rfl, _⟩ := gvv_slice h rfl; rfl
  | func f x y => obtain ⟨_, _, _, _, rfl⟩ := gvv_func h rfl; rfl
theorem cell_okc {a : AV} (hc : cell a = true) : okc a = true ∧ cellsOf a a = [a] := by
  cases a <;> first | exact ft hc | exact ⟨rfl, rfl⟩ | exact ⟨hc, rfl⟩
theorem set_over {l : List AV} {off : Nat} {a : AV} (h : off < l.length) : l.set off a = l.take off ++ ([a] ++ l.drop (off + [a].length)) := by
  rw [List.set_eq_take_append_cons_drop, if_pos h]; rfl
/-- Storing cells of one block, and what is then known. -/
theorem store_ev {H : Heap} {w : World} {i : Id} {L : Loc} {ex : Bool} {e : TypeId} {l vs : List AV} {us : List Value} {off : Nat} (hR : Rel P s H w) (hi : hget H i = some (.cells ex e l)) (hL : s i = some L) (hus : gvs s vs = some us)
    (hle : off + vs.length ≤ l.length) (h1 : ∀ v ∈ us, v.oneCell' = true) : ∃ w', (storeCells ⟨L.b, L.base + off, none⟩ us).run P w = .ok () w' ∧ Ev P s H w s (hset H i (some (.cells ex e (l.take off ++ (vs ++ l.drop (off + vs.length)))))) w' := by
  have hb := hR.at hi hL
  obtain ⟨cs, f, e1, e2, e3, e4, e5, e6⟩ := id hb
  have hl := gvs_length hus
  have hsz : L.base + off + us.length ≤ cs.size := by
    rcases Nat.eq_zero_or_pos us.length with h0 | h0
    · rcases Nat.eq_zero_or_pos l.length with h2 | h2
      · have : off = 0 := by omega
        subst this
        by_cases hx : ex = true
        · have := e4 hx; omega
        · omega
      · obtain ⟨u, _, h3⟩ := e2 (l.length - 1) _ (List.getElem?_eq_getElem (by omega))
        have := (Array.getElem?_eq_some_iff.1 h3).1
        omega
    · obtain ⟨u, _, h3⟩ := e2 (off + us.length - 1) _ (List.getElem?_eq_getElem (by omega))
      have := (Array.getElem?_eq_some_iff.1 h3).1
      omega
  obtain ⟨w', cs', a1, a2, a3, a4, a5⟩ := run_storeCells (P := P) (L.base + off) us 0 w cs e1 (by omega) e3 h1
  refine ⟨w', a1, Ev.set hR hi hL a5 ?_⟩
  rw [a2]
  rw [e1] at hb
  exact rel_over hb hus hle a3 (by simpa using a4)
theorem store_full {t : TypeId} {n : Nat} {x y : Operand} (ho : o.op = .store t x y) (hn : sz P t = some n) : Full P cl o d (.stn d (cO x) (cO y) n) := fun ih r D H h => by
  have h : onPtr (ov (cO x) r) (fun i off => chk (Nat.beq (lenF (cellsOf (ov (cO y) r) (ov (cO y) r))) n) (allCell (cellsOf (ov (cO y) r) (ov (cO y) r)) (atCells i H (fun ex e l => over off l (cellsOf (ov (cO y) r) (ov (cO y) r)) (fun l => ih (put d (AV.tuple []) r) D (hset H i (some (.cells ex e l)))))))) = true := h
  obtain ⟨i, off, h1, h⟩ := onPtr_iff.1 h
  obtain ⟨h2, h⟩ := chk_iff.1 h
  rw [Nat.beq_eq, lenF_eq] at h2
  obtain ⟨h3, h⟩ := allCell_iff.1 h
  obtain ⟨ex, e, l, h4, h⟩ := atCells_iff.1 h
  obtain ⟨h5, h⟩ := over_iff.1 h
  refine ⟨_, D, _, h, fun ro s w a Q hR hO hD => ?_⟩
  obtain ⟨L, hL, ea⟩ := gvv_ptr (hO x (by rw [ho]; simp [Op.operands])) h1
  have hy := hO y (by rw [ho]; simp [Op.operands])
  have hok : okc (ov (cO y) r) = true := by
    cases hv : ov (cO y) r with
    | lit u => rw [hv] at h3; exact h3 _ (List.mem_cons_self ..)
    | _ => rfl
  have hc := gv_cells hy hok
  obtain ⟨w', e1, e2⟩ := store_ev hR h4 hL hc h5 (fun v hv => by
    obtain ⟨j, hj⟩ := List.mem_iff_getElem?.1 hv
    obtain ⟨b, e1, e2⟩ := gvs_get' hc hj
    exact cell_one e2 (h3 b (List.mem_of_getElem? e1)))
  refine wpIn_skip' (fun c => by rw [ho]; simp) (w' := w') ?_ ⟨undef, s, a.defers, rfl, rfl, e2, hD⟩
  have hsz : (a.eval y).cells.size = n := by rw [← Array.length_toList, gvs_length hc, h2]
  simp only [execOp, ho, ea, Instr.storeAt, Instr.sureAddr, Sem.run_bind, Sem.run_pure, Result.andThen_ok, storeVar, run_sizeOf hn, hsz, ne_eq, not_true_eq_false, if_false, e1]
theorem store1_full {t : TypeId} {x y : Operand} (ho : o.op = .store t x y) (hn : sz P t = some 1) : Full P cl o d (.st d (cO x) (cO y)) := fun ih r D H h => by
  have h : onPtr (ov (cO x) r) (fun i off => chk (cell (ov (cO y) r)) (atCells i H (fun ex e l => set1 off l (ov (cO y) r) (fun l => ih (put d (AV.tuple []) r) D (hset H i (some (.cells ex e l))))))) = true := h
  obtain ⟨i, off, h1, h⟩ := onPtr_iff.1 h
  obtain ⟨h3, h⟩ := chk_iff.1 h
  obtain ⟨ex, e, l, h4, h⟩ := atCells_iff.1 h
  obtain ⟨h5, h⟩ := set1_iff.1 h
  refine ⟨_, D, _, h, fun ro s w a Q hR hO hD => ?_⟩
  obtain ⟨L, hL, ea⟩ := gvv_ptr (hO x (by rw [ho]; simp [Op.operands])) h1
  have hy := hO y (by rw [ho]; simp [Op.operands])
  have hc := gv_cells hy (cell_okc h3).1
  rw [(cell_okc h3).2] at hc
  obtain ⟨w', e1, e2⟩ := store_ev (off := off) hR h4 hL hc (by simp only [List.length_singleton]; omega) (fun v hv => by
    obtain ⟨j, hj⟩ := List.mem_iff_getElem?.1 hv
    obtain ⟨b, e1, e2⟩ := gvs_get' hc hj
    have := List.mem_of_getElem? e1
    simp only [List.mem_singleton] at this
    subst this
    exact cell_one e2 h3)
  rw [← set_over h5] at e2
  refine wpIn_skip' (fun c => by rw [ho]; simp) (w' := w') ?_ ⟨undef, s, a.defers, rfl, rfl, e2, hD⟩
  have hsz : (a.eval y).cells.size = 1 := by rw [← Array.length_toList, gvs_length hc]; rfl
  simp only [execOp, ho, ea, Instr.storeAt, Instr.sureAddr, Sem.run_bind, Sem.run_pure, Result.andThen_ok, storeVar, run_sizeOf hn, hsz, ne_eq, not_true_eq_false, if_false, e1]
end
end Go.Xe
