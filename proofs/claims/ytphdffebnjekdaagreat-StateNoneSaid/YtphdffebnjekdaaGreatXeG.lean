/- Values with block names of the executor's own, placed in a world. -/
import Derived.Test.YtphdffebnjekdaaGreatXeB
import Derived.Laws.Cells
namespace Go.Xe
open Go
/-- Where a block lies: the real block, its first cell; the slice's capacity from there, in elements of es cells (0, 0: a block of which nothing grows). -/
structure Loc where
  b : Nat
  base : Nat
  cap : Nat
  es : Nat
abbrev Pl := Id → Option Loc
mutual
def gv (s : Pl) : AV → Option Value
  | .int k n => some (.int k n)
  | .bool b => some (.bool b)
  | .str l => if l.all (Nat.blt · 256) then some (strV l) else none
  | .ptr i off => (s i).map fun L => .pointer (some ⟨L.b, L.base + off, none⟩)
  | .slice i off len 0 cap => (s i).map fun L => .slice (some ⟨L.b, L.base + off, none⟩) len cap
  | .slice i off len (q + 1) k => (s i).bind fun L => if q = L.es ∧ off = k * L.es ∧ k + len ≤ L.cap then some (.slice (some ⟨L.b, L.base + off, none⟩) len (L.cap - k)) else none
  | .map i => (s i).map fun L => .map (some L.b)
  | .func f a b => match gvs s a, gvs s b with | some a, some b => some (.func (.func f.toNat) a.toArray b.toArray) | _, _ => none
  | .yield l => (s l).map fun L => .func (.yield L.b) #[] #[]
  | .agg l => match gvs s l with | some l => some (.agg l.toArray) | none => none
  | .tuple l => match gvs s l with | some l => some (.tuple l.toArray) | none => none
  | .nilp => some (.pointer none)
  | .nils => some (.slice none 0 0)
  | .lit v => some v
def gvs (s : Pl) : List AV → Option (List Value)
  | [] => some []
  | a :: l => match gv s a with
    | some v => match gvs s l with | some vs => some (v :: vs) | none => none
    | none => none
end
def Pl.le (s t : Pl) : Prop := ∀ i L, s i = some L → t i = some L
theorem Pl.le.refl (s : Pl) : s.le s := fun _ _ h => h
theorem Pl.le.trans {a b c : Pl} (h : a.le b) (k : b.le c) : a.le c := fun i L e => k i L (h i L e)
mutual
theorem gv_mono {s t : Pl} (h : s.le t) : ∀ {a : AV} {v : Value}, gv s a = some v → gv t a = some v
  | .int .., _, e | .bool _, _, e | .str _, _, e | .nilp, _, e | .nils, _, e | .lit _, _, e => by simpa only [gv] using e
  | .ptr i _, _, e | .slice i _ _ 0 _, _, e | .map i, _, e | .yield i, _, e => by
    simp only [gv, Option.map_eq_some_iff] at e ⊢
    obtain ⟨L, h1, h2⟩ := e; exact ⟨L, h i L h1, h2⟩
  | .slice i _ _ (_ + 1) _, _, e => by
    simp only [gv, Option.bind_eq_some_iff] at e ⊢
    obtain ⟨L, h1, h2⟩ := e; exact ⟨L, h i L h1, h2⟩
  | .func f a b, v, e => by
    simp only [gv] at e ⊢
    cases ha : gvs s a with
    | none => rw [ha] at e; cases e
    | some x =>
      cases hb : gvs s b with
      | none => rw [ha, hb] at e; cases e
      | some y => rw [ha, hb] at e; rw [gvs_mono h ha, gvs_mono h hb]; exact e
  | .agg l, v, e => by
    simp only [gv] at e ⊢
    cases ha : gvs s l with
    | none => rw [ha] at e; cases e
    | some x => rw [ha] at e; rw [gvs_mono h ha]; exact e
  | .tuple l, v, e => by
    simp only [gv] at e ⊢
    cases ha : gvs s l with
    | none => rw [ha] at e; cases e
    | some x => rw [ha] at e; rw [gvs_mono h ha]; exact e
theorem gvs_mono {s t : Pl} (h : s.le t) : ∀ {l : List AV} {vs : List Value}, gvs s l = some vs → gvs t l = some vs
  | [], _, e => by simpa only [gvs] using e
  | a :: l, vs, e => by
    simp only [gvs] at e ⊢
    cases ha : gv s a with
    | none => rw [ha] at e; cases e
    | some x =>
      cases hb : gvs s l with
      | none => rw [ha, hb] at e; cases e
      | some y => rw [ha, hb] at e; rw [gv_mono h ha, gvs_mono h hb]; exact e
end
section
variable {s : Pl}
theorem gvs_cons {a : AV} {l : List AV} {vs : List Value} : gvs s (a :: l) = some vs ↔ ∃ v us, gv s a = some v ∧ gvs s l = some us ∧ vs = v :: us := by
  simp only [gvs]
  cases gv s a with
  | none => simp
  | some v =>
    cases gvs s l with
    | none => simp
    | some us => simp only [Option.some.injEq]; exact ⟨fun h => ⟨v, us, rfl, rfl, h.symm⟩, fun ⟨_, _, e1, e2, e3⟩ => by rw [e3, e1, e2]⟩
theorem gvs_nil {vs : List Value} : gvs s [] = some vs ↔ vs = [] := by simp only [gvs, Option.some.injEq]; exact eq_comm
theorem gvs_length : ∀ {l : List AV} {vs : List Value}, gvs s l = some vs → vs.length = l.length
  | [], vs, h => by rw [gvs_nil] at h; subst h; rfl
  | a :: l, vs, h => by
    obtain ⟨v, us, _, h2, rfl⟩ := gvs_cons.1 h
    simp [gvs_length h2]
theorem gvs_get : ∀ {l : List AV} {vs : List Value} {j : Nat} {a : AV}, gvs s l = some vs → l[j]? = some a → ∃ v, vs[j]? = some v ∧ gv s a = some v
  | [], _, _, _, _, h => by simp at h
  | b :: l, vs, 0, a, h, e => by
    obtain ⟨v, us, h1, _, rfl⟩ := gvs_cons.1 h
    simp only [List.getElem?_cons_zero, Option.some.injEq] at e
    subst e; exact ⟨v, rfl, h1⟩
  | b :: l, vs, j + 1, a, h, e => by
    obtain ⟨v, us, _, h2, rfl⟩ := gvs_cons.1 h
    simp only [List.getElem?_cons_succ] at e ⊢
    exact gvs_get h2 e
theorem gvs_get' {l : List AV} {vs : List Value} {j : Nat} {v : Value} (h : gvs s l = some vs) (e : vs[j]? = some v) : ∃ a, l[j]? = some a ∧ gv s a = some v := by
  have hj : j < l.length := by rw [← gvs_length h]; exact (List.getElem?_eq_some_iff.1 e).1
  obtain ⟨u, h1, h2⟩ := gvs_get h (List.getElem?_eq_getElem hj)
  rw [e] at h1; cases h1
  exact ⟨_, List.getElem?_eq_getElem hj, h2⟩
theorem gvs_append : ∀ {l m : List AV} {us vs : List Value}, gvs s l = some us → gvs s m = some vs → gvs s (l ++ m) = some (us ++ vs)
  | [], _, us, _, h, k => by rw [gvs_nil] at h; subst h; simpa using k
  | a :: l, m, us, vs, h, k => by
    obtain ⟨v, ws, h1, h2, rfl⟩ := gvs_cons.1 h
    exact gvs_cons.2 ⟨v, _, h1, gvs_append h2 k, rfl⟩
theorem gvs_of : ∀ {l : List AV}, (∀ (j : Nat) a, l[j]? = some a → ∃ v, gv s a = some v) → ∃ vs, gvs s l = some vs
  | [], _ => ⟨[], rfl⟩
  | a :: l, h => by
    obtain ⟨v, hv⟩ := h 0 a rfl
    obtain ⟨vs, hvs⟩ := gvs_of (l := l) fun j a e => h (j + 1) a (by simpa using e)
    exact ⟨v :: vs, gvs_cons.2 ⟨v, vs, hv, hvs, rfl⟩⟩
theorem gvs_map {α : Type} {f : α → AV} {g : α → Value} : ∀ {l : List α}, (∀ a ∈ l, gv s (f a) = some (g a)) → gvs s (l.map f) = some (l.map g)
  | [], _ => rfl
  | a :: l, h => gvs_cons.2 ⟨_, _, h a (by simp), gvs_map fun b hb => h b (by simp [hb]), rfl⟩
end
/-! Literal values. -/
mutual
theorem gv_toV {s : Pl} : ∀ {a : AV} {v : Value}, toV a = some v → gv s a = some v
  | .int .., _, e | .bool _, _, e | .str _, _, e | .nilp, _, e | .nils, _, e | .lit _, _, e => by simpa only [gv, toV] using e
  | .ptr .., _, e | .slice .., _, e | .map _, _, e | .yield _, _, e | .func .., _, e => by simp only [toV] at e; cases e
  | .agg l, v, e => by
    simp only [gv, toV] at e ⊢
    cases ha : toVs l with
    | none => rw [ha] at e; cases e
    | some x => rw [ha] at e; rw [gvs_toVs ha]; exact e
  | .tuple l, v, e => by
    simp only [gv, toV] at e ⊢
    cases ha : toVs l with
    | none => rw [ha] at e; cases e
    | some x => rw [ha] at e; rw [gvs_toVs ha]; exact e
theorem gvs_toVs {s : Pl} : ∀ {l : List AV} {vs : List Value}, toVs l = some vs → gvs s l = some vs
  | [], _, e => by simpa only [gvs, toVs] using e
  | a :: l, vs, e => by
    simp only [gvs, toVs] at e ⊢
    cases ha : toV a with
    | none => rw [ha] at e; cases e
    | some x =>
      cases hb : toVs l with
      | none => rw [ha, hb] at e; cases e
      | some y => rw [ha, hb] at e; rw [gv_toV ha, gvs_toVs hb]; exact e
end
theorem strV_bytes (s : ByteArray) : (s.data.toList.map UInt8.toNat).all (Nat.blt · 256) = true ∧ strV (s.data.toList.map UInt8.toNat) = .string s := by
  constructor
  · rw [List.all_eq_true]
    intro n hn
    obtain ⟨b, _, rfl⟩ := List.mem_map.1 hn
    rw [Nat.blt_eq]; exact b.toNat_lt
  · simp only [strV, List.map_map]
    have : (UInt8.ofNat ∘ UInt8.toNat) = id := by funext b; simp
    rw [this]; simp
theorem gv_ofV0 {s : Pl} (v : Value) : gv s (ofV0 v) = some v := by
  unfold ofV0
  split <;> simp only [gv]
  · rename_i s; rw [if_pos (strV_bytes s).1, (strV_bytes s).2]
theorem gv_ofV1 {s : Pl} (v : Value) : gv s (ofV1 v) = some v := by
  unfold ofV1
  split
  · rename_i cs
    simp only [gv]
    rw [gvs_map (g := id) (fun a _ => gv_ofV0 a)]; simp
  · exact gv_ofV0 v
theorem gv_ofV {s : Pl} (v : Value) : gv s (ofV v) = some v := by
  unfold ofV
  split
  · rename_i cs
    simp only [gv]
    rw [gvs_map (g := id) (fun a _ => gv_ofV1 a)]; simp
  · exact gv_ofV1 v
theorem pureRun_run {α : Type} {P : Program} : ∀ {s : Sem α} {a : α}, pureRun P s = some a → ∀ w, s.run P w = .ok a w := by
  intro s
  induction s with
  | pure a => intro b h w; simp only [pureRun, Option.some.injEq] at h; subst h; rfl
  | program k ih => intro b h w; simp only [pureRun] at h; simp only [Sem.run]; exact ih P h w
  | mark m k ih => intro b h w; simp only [pureRun] at h; simp only [Sem.run]; exact ih h w
  | _ => intro b h w; simp [pureRun] at h
/-- A value in its cells. -/
theorem gv_cells {s : Pl} {a : AV} {v : Value} (h : gv s a = some v) (ho : okc a = true) : gvs s (cellsOf a a) = some v.cells.toList := by
  have one : v.cells = #[v] → cellsOf a a = [a] → gvs s (cellsOf a a) = some v.cells.toList := fun h1 h2 => by rw [h1, h2]; exact gvs_cons.2 ⟨v, [], h, rfl, rfl⟩
  cases a with
  | agg l =>
    simp only [gv] at h
    cases ha : gvs s l with
    | none => rw [ha] at h; cases h
    | some x => rw [ha] at h; cases h; exact ha
  | lit u =>
    simp only [gv, Option.some.injEq] at h
    subst h
    refine one ?_ rfl
    have ho : litOk u = true := ho
    cases u <;> first | rfl | cases ho
  | int _ _ | bool _ | nilp | nils => simp only [gv, Option.some.injEq] at h; subst h; exact one rfl rfl
  | str l =>
    simp only [gv] at h
    split at h
    · cases h; exact one rfl rfl
    · cases h
  | ptr _ _ | map _ | yield _ => simp only [gv, Option.map_eq_some_iff] at h; obtain ⟨L, _, rfl⟩ := h; exact one rfl rfl
  | slice i off len ex c =>
    cases ex with
    | zero => simp only [gv, Option.map_eq_some_iff] at h; obtain ⟨L, _, rfl⟩ := h; exact one rfl rfl
    | succ q =>
      simp only [gv, Option.bind_eq_some_iff] at h
      obtain ⟨L, _, h⟩ := h
      split at h
      · cases h; exact one rfl rfl
      · cases h
  | func f x y =>
    simp only [gv] at h
    split at h
    · cases h; exact one rfl rfl
    · cases h
  | tuple l =>
    simp only [gv] at h
    split at h
    · cases h; exact one rfl rfl
    · cases h
/-! The memory. -/
def EntRel (s : Pl) : List (AV × AV × Nat) → List MapEntry → Prop
  | [], [] => True
  | e :: es, m :: ms => gv s e.1 = some m.key ∧ gv s e.2.1 = some m.val ∧ e.2.2 = m.born ∧ EntRel s es ms
  | _, _ => False
def RegRel (s : Pl) (n : Nat) (r : Regs) (tmps : Array Value) : Prop :=
  tmps.size = n ∧ ∀ t (h : t < tmps.size), gv s (rget (cP t).1 (cP t).2 r) = some tmps[t]
def exCode : Ex → Option Code
  | .normal => none
  | .exit i => some (.exit i)
  | .ret => some .ret
def BlkRel (P : Program) (s : Pl) (L : Loc) : Blk → Option Obj → Prop
  | .cells ex e l, o => ∃ cs fz, o = some (.cells cs e fz) ∧ (∀ (j : Nat) a, l[j]? = some a → ∃ u, gv s a = some u ∧ cs[L.base + j]? = some u) ∧
      (∀ o, o < cs.size → ¬(fz.1 ≤ o ∧ o < fz.2)) ∧ (ex = true → L.base = 0 ∧ cs.size = l.length) ∧ L.base + L.cap * L.es ≤ cs.size ∧ (L.cap ≠ 0 → sz P e = some L.es)
  | .map es c, o => ∃ ms, o = some (.map ms c) ∧ EntRel s es ms.toList
  | .siter t p, o => L.base = 0 ∧ t.all (Nat.blt · 256) = true ∧ o = some (.stringIter ⟨(t.map UInt8.ofNat).toArray⟩ p)
  | .iter m since seen last, o => L.base = 0 ∧ ∃ M, s m = some M ∧ o = some (.mapIter (some M.b) since seen.toArray last)
  | .dfrs, o => o = some (.deferred (some []))
  | .loop st pend r ps asg body, o => ∃ lp : Loop, o = some (.loop lp) ∧ lp.state = st ∧ lp.pending = exCode pend ∧ lp.params.toList.map cP = ps ∧ cC P lp.assign = asg ∧ cC P lp.body = body ∧
      ∃ n, n ≤ 256 ∧ RegRel s n r lp.tmps ∧ (∀ p ∈ lp.params, p < n) ∧ okC P n lp.assign = true ∧ okC P n lp.body = true
theorem EntRel.mono {s t : Pl} (h : s.le t) : ∀ {es : List (AV × AV × Nat)} {ms : List MapEntry}, EntRel s es ms → EntRel t es ms
  | [], [], _ => trivial
  | _ :: _, _ :: _, ⟨a, b, c, d⟩ => ⟨gv_mono h a, gv_mono h b, c, EntRel.mono h d⟩
  | [], _ :: _, h => h.elim
  | _ :: _, [], h => h.elim
theorem RegRel.mono {s t : Pl} {n : Nat} {r : Regs} {tmps : Array Value} (h : s.le t) (k : RegRel s n r tmps) : RegRel t n r tmps := ⟨k.1, fun i hi => gv_mono h (k.2 i hi)⟩
theorem BlkRel.mono {P : Program} {s t : Pl} {L : Loc} {b : Blk} {o : Option Obj} (h : s.le t) (k : BlkRel P s L b o) : BlkRel P t L b o := by
  cases b with
  | cells ex e l => obtain ⟨cs, fz, h1, h2, h3, h4⟩ := k; exact ⟨cs, fz, h1, fun j a e => let ⟨u, a1, a2⟩ := h2 j a e; ⟨u, gv_mono h a1, a2⟩, h3, h4⟩
  | map es c => obtain ⟨ms, h1, h2⟩ := k; exact ⟨ms, h1, h2.mono h⟩
  | siter t p => exact k
  | iter m a b c => obtain ⟨h0, M, h1, h2⟩ := k; exact ⟨h0, M, h m M h1, h2⟩
  | dfrs => exact k
  | loop st pend r ps asg body => obtain ⟨lp, h1, h2, h3, h4, h5, h6, n, h7, h8, h9⟩ := k; exact ⟨lp, h1, h2, h3, h4, h5, h6, n, h7, h8.mono h, h9⟩
structure Rel (P : Program) (s : Pl) (H : Heap) (w : World) : Prop where
  blk : ∀ i b, hget H i = some b → ∃ L, s i = some L ∧ BlkRel P s L b w.heap[L.b]?
  inj : ∀ i j L M, hget H i ≠ none → hget H j ≠ none → s i = some L → s j = some M → L.b = M.b → i = j
  nx : ∀ i L, s i = some L → i.toNat < H.nx.toNat
def img (s : Pl) (H : Heap) (β : Nat) : Prop := ∃ i L, hget H i ≠ none ∧ s i = some L ∧ L.b = β
structure Fr (A : Nat → Prop) (w w' : World) : Prop where
  os : w'.os = w.os
  tape : w'.tape = w.tape
  output : w'.output = w.output
  size : w.heap.size ≤ w'.heap.size
  block : ∀ k, k < w.heap.size → ¬ A k → w'.heap[k]? = w.heap[k]?
structure Ev (P : Program) (s : Pl) (H : Heap) (w : World) (s' : Pl) (H' : Heap) (w' : World) : Prop where
  mono : s.le s'
  fr : Fr (img s H) w w'
  im : ∀ β, img s' H' β → img s H β ∨ w.heap.size ≤ β
  rel : Rel P s' H' w'
  nx : H.nx.toNat ≤ H'.nx.toNat
theorem Fr.refl (A : Nat → Prop) (w : World) : Fr A w w := ⟨rfl, rfl, rfl, Nat.le_refl _, fun _ _ _ => rfl⟩
theorem Ev.refl {P : Program} {s : Pl} {H : Heap} {w : World} (h : Rel P s H w) : Ev P s H w s H w := ⟨.refl _, .refl _ _, fun _ h => .inl h, h, Nat.le_refl _⟩
theorem Ev.trans {P : Program} {s s' s'' : Pl} {H H' H'' : Heap} {w w' w'' : World} (h : Ev P s H w s' H' w') (k : Ev P s' H' w' s'' H'' w'') : Ev P s H w s'' H'' w'' := by
  refine ⟨h.mono.trans k.mono, ⟨k.fr.os.trans h.fr.os, k.fr.tape.trans h.fr.tape, k.fr.output.trans h.fr.output, Nat.le_trans h.fr.size k.fr.size, fun β hb hn => ?_⟩, fun β hb => ?_, k.rel, Nat.le_trans h.nx k.nx⟩
  · rw [k.fr.block β (Nat.lt_of_lt_of_le hb h.fr.size) (fun hi => ?_), h.fr.block β hb hn]
    rcases h.im β hi with hi | hi
    · exact hn hi
    · omega
  · rcases k.im β hb with hi | hi
    · exact h.im β hi
    · exact .inr (Nat.le_trans h.fr.size hi)
theorem Rel.lt {P : Program} {s : Pl} {H : Heap} {w : World} (h : Rel P s H w) {i : Id} {b : Blk} {L : Loc} (hi : hget H i = some b) (hL : s i = some L) : L.b < w.heap.size := by
  obtain ⟨M, h1, h2⟩ := h.blk i b hi
  rw [hL] at h1; cases h1
  rcases Nat.lt_or_ge L.b w.heap.size with h3 | h3
  · exact h3
  · rw [Array.getElem?_eq_none h3] at h2
    cases b <;> simp [BlkRel] at h2
theorem Rel.at {P : Program} {s : Pl} {H : Heap} {w : World} (h : Rel P s H w) {i : Id} {b : Blk} {L : Loc} (hi : hget H i = some b) (hL : s i = some L) : BlkRel P s L b w.heap[L.b]? := by
  obtain ⟨M, h1, h2⟩ := h.blk i b hi
  rw [hL] at h1; cases h1; exact h2
def upd (s : Pl) (i : Id) (L : Loc) : Pl := fun j => if j = i then some L else s j
theorem upd_self (s : Pl) (i : Id) (L : Loc) : upd s i L i = some L := if_pos rfl
theorem upd_le {s : Pl} {i : Id} {L : Loc} (h : s i = none) : s.le (upd s i L) := fun j M e => by
  unfold upd
  by_cases hj : j = i
  · subst hj; rw [h] at e; cases e
  · rw [if_neg hj]; exact e
theorem Rel.fresh {P : Program} {s : Pl} {H : Heap} {w : World} (h : Rel P s H w) : s H.nx = none := by
  cases hs : s H.nx with
  | none => rfl
  | some L => exact absurd (h.nx _ _ hs) (Nat.lt_irrefl _)
/-- A new block. -/
theorem Ev.alloc {P : Program} {s : Pl} {H H' : Heap} {w w' : World} (h : Rel P s H w) {x : Blk} {o : Obj} {L : Loc} (hn : H'.nx.toNat = H.nx.toNat + 1) (hg : ∀ j, hget H' j = if j = H.nx then some x else hget H j)
    (hw : w'.heap = w.heap.push o) (ho : w'.os = w.os) (ht : w'.tape = w.tape) (hu : w'.output = w.output) (hL : L.b = w.heap.size) (hb : BlkRel P (upd s H.nx L) L x (some o)) :
    Ev P s H w (upd s H.nx L) H' w' := by
  have hle := upd_le (L := L) h.fresh
  have old : ∀ k, k < w.heap.size → w'.heap[k]? = w.heap[k]? := fun k hk => by rw [hw, Array.getElem?_push]; simp [Nat.ne_of_lt hk]
  have cases' : ∀ i, hget H' i ≠ none → i = H.nx ∨ (i ≠ H.nx ∧ hget H i ≠ none) := fun i hi => by
    rw [hg] at hi
    by_cases e : i = H.nx
    · exact .inl e
    · rw [if_neg e] at hi; exact .inr ⟨e, hi⟩
  have at_ : ∀ i M, hget H i ≠ none → upd s H.nx L i = some M → i ≠ H.nx → s i = some M ∧ M.b < w.heap.size := fun i M hi hM hne => by
    unfold upd at hM; rw [if_neg hne] at hM
    cases hb : hget H i with
    | none => exact absurd hb hi
    | some b => exact ⟨hM, h.lt hb hM⟩
  refine ⟨hle, ⟨ho, ht, hu, by rw [hw, Array.size_push]; omega, fun k hk _ => old k hk⟩, ?_, ⟨?_, ?_, ?_⟩, by omega⟩
  · rintro β ⟨i, M, hi, hM, rfl⟩
    rcases cases' i hi with rfl | ⟨hne, hi⟩
    · rw [upd_self] at hM; cases hM; exact .inr (by omega)
    · exact .inl ⟨i, M, hi, (at_ i M hi hM hne).1, rfl⟩
  · intro i b hi
    rw [hg] at hi
    by_cases e : i = H.nx
    · rw [if_pos e] at hi; cases hi; subst e
      refine ⟨L, upd_self .., ?_⟩
      rw [hw, hL, Array.getElem?_push_size]; exact hb
    · rw [if_neg e] at hi
      obtain ⟨M, h1, h2⟩ := h.blk i b hi
      refine ⟨M, hle i M h1, ?_⟩
      rw [old M.b (h.lt hi h1)]; exact h2.mono hle
  · intro i j M N hi hj hM hN e
    rcases cases' i hi with rfl | ⟨hne, hi⟩
    · rcases cases' j hj with rfl | ⟨hne', hj⟩
      · rfl
      · rw [upd_self] at hM; cases hM
        have := (at_ j N hj hN hne').2; omega
    · rcases cases' j hj with rfl | ⟨hne', hj⟩
      · rw [upd_self] at hN; cases hN
        have := (at_ i M hi hM hne).2; omega
      · exact h.inj i j M N hi hj (at_ i M hi hM hne).1 (at_ j N hj hN hne').1 e
  · intro i M hM
    unfold upd at hM
    by_cases e : i = H.nx
    · subst e; omega
    · rw [if_neg e] at hM; have := h.nx i M hM; omega
/-- A block's content is another. -/
theorem Ev.set {P : Program} {s : Pl} {H : Heap} {w w' : World} (h : Rel P s H w) {i : Id} {b x : Blk} {L : Loc} (hi : hget H i = some b) (hL : s i = some L)
    (hf : Fr (fun β => β = L.b) w w') (hb : BlkRel P s L x w'.heap[L.b]?) : Ev P s H w s (hset H i (some x)) w' := by
  have hs : ∀ j, hget (hset H i (some x)) j ≠ none → hget H j ≠ none := fun j hj => by
    rw [hget_hset] at hj
    by_cases e : j = i
    · subst e; rw [hi]; exact Option.some_ne_none _
    · rwa [if_neg e] at hj
  refine ⟨.refl _, ⟨hf.os, hf.tape, hf.output, hf.size, fun k hk hn => hf.block k hk (fun e => hn ⟨i, L, by rw [hi]; exact Option.some_ne_none _, hL, e.symm⟩)⟩, ?_, ⟨?_, ?_, ?_⟩, by rw [nx_hset]; exact Nat.le_refl _⟩
  · rintro β ⟨j, M, hj, hM, rfl⟩; exact .inl ⟨j, M, hs j hj, hM, rfl⟩
  · intro j c hj
    rw [hget_hset] at hj
    by_cases e : j = i
    · rw [if_pos e] at hj; cases hj; subst e; exact ⟨L, hL, hb⟩
    · rw [if_neg e] at hj
      obtain ⟨M, h1, h2⟩ := h.blk j c hj
      refine ⟨M, h1, ?_⟩
      rw [hf.block M.b (h.lt hj h1) (fun e' => e (h.inj j i M L (by rw [hj]; exact Option.some_ne_none _) (by rw [hi]; exact Option.some_ne_none _) h1 hL e'))]
      exact h2
  · intro j k M N hj hk; exact h.inj j k M N (hs j hj) (hs k hk)
  · intro j M hM; rw [nx_hset]; exact h.nx j M hM
/-- A block is let go. -/
theorem Rel.drop {P : Program} {s : Pl} {H : Heap} {w : World} (h : Rel P s H w) (i : Id) : Rel P s (hset H i none) w := by
  have hs : ∀ j b, hget (hset H i none) j = some b → hget H j = some b := fun j b hj => by
    rw [hget_hset] at hj
    by_cases e : j = i
    · rw [if_pos e] at hj; cases hj
    · rwa [if_neg e] at hj
  have hs' : ∀ j, hget (hset H i none) j ≠ none → hget H j ≠ none := fun j hj => by
    cases hb : hget (hset H i none) j with
    | none => exact absurd hb hj
    | some b => rw [hs j b hb]; exact Option.some_ne_none _
  exact ⟨fun j b hj => h.blk j b (hs j b hj), fun j k M N hj hk => h.inj j k M N (hs' j hj) (hs' k hk), fun j M hM => by rw [nx_hset]; exact h.nx j M hM⟩
theorem Ev.drop {P : Program} {s : Pl} {H : Heap} {w : World} (h : Rel P s H w) (i : Id) : Ev P s H w s (hset H i none) w := by
  refine ⟨.refl _, .refl _ _, ?_, h.drop i, by rw [nx_hset]; exact Nat.le_refl _⟩
  rintro β ⟨j, M, hj, hM, rfl⟩
  refine .inl ⟨j, M, ?_, hM, rfl⟩
  rw [hget_hset] at hj
  by_cases e : j = i
  · rw [if_pos e] at hj; exact absurd rfl hj
  · rwa [if_neg e] at hj
/-- A block is let go; what becomes of it does not count. -/
theorem Ev.dropSet {P : Program} {s : Pl} {H : Heap} {w w' : World} (h : Rel P s H w) {i : Id} {b : Blk} {L : Loc} (hi : hget H i = some b) (hL : s i = some L) (hf : Fr (fun β => β = L.b) w w') : Ev P s H w s (hset H i none) w' := by
  have hlive : hget H i ≠ none := by rw [hi]; exact Option.some_ne_none _
  have hd := Ev.drop h i
  refine ⟨.refl _, ⟨hf.os, hf.tape, hf.output, hf.size, fun k hk hn => hf.block k hk (fun e => hn ⟨i, L, hlive, hL, e.symm⟩)⟩, hd.im, ⟨fun j c hj => ?_, hd.rel.inj, hd.rel.nx⟩, hd.nx⟩
  obtain ⟨M, h1, h2⟩ := hd.rel.blk j c hj
  refine ⟨M, h1, ?_⟩
  rw [hget_hset] at hj
  by_cases e : j = i
  · rw [if_pos e] at hj; cases hj
  · rw [if_neg e] at hj
    rw [hf.block M.b (h.lt hj h1) (fun e' => e (h.inj j i M L (by rw [hj]; exact Option.some_ne_none _) hlive h1 hL e'))]
    exact h2
/-- A block is let go, and a new one stands in its place. -/
theorem Ev.renew {P : Program} {s : Pl} {H H' : Heap} {w w' : World} (h : Rel P s H w) {i : Id} {b x : Blk} {L M : Loc} (hi : hget H i = some b) (hL : s i = some L)
    (hn : H'.nx.toNat = H.nx.toNat + 1) (hg : ∀ j, hget H' j = if j = H.nx then some x else hget (hset H i none) j) (hM : M.b = L.b)
    (hf : Fr (fun β => β = L.b) w w') (hb : BlkRel P (upd s H.nx M) M x w'.heap[L.b]?) : Ev P s H w (upd s H.nx M) H' w' := by
  have hle := upd_le (L := M) h.fresh
  have hlive : hget H i ≠ none := by rw [hi]; exact Option.some_ne_none _
  have cases' : ∀ j, hget H' j ≠ none → j = H.nx ∨ (j ≠ H.nx ∧ j ≠ i ∧ hget H j ≠ none) := fun j hj => by
    rw [hg] at hj
    by_cases e : j = H.nx
    · exact .inl e
    · rw [if_neg e, hget_hset] at hj
      by_cases e' : j = i
      · rw [if_pos e'] at hj; exact absurd rfl hj
      · rw [if_neg e'] at hj; exact .inr ⟨e, e', hj⟩
  have at_ : ∀ j N, upd s H.nx M j = some N → j ≠ H.nx → s j = some N := fun j N hN hne => by unfold upd at hN; rwa [if_neg hne] at hN
  refine ⟨hle, ⟨hf.os, hf.tape, hf.output, hf.size, fun k hk hn => hf.block k hk (fun e => hn ⟨i, L, hlive, hL, e.symm⟩)⟩, ?_, ⟨?_, ?_, ?_⟩, by omega⟩
  · rintro β ⟨j, N, hj, hN, rfl⟩
    rcases cases' j hj with rfl | ⟨hne, hji, hj⟩
    · rw [upd_self] at hN; cases hN; exact .inl ⟨i, L, hlive, hL, hM.symm⟩
    · exact .inl ⟨j, N, hj, at_ j N hN hne, rfl⟩
  · intro j c hj
    rw [hg] at hj
    by_cases e : j = H.nx
    · rw [if_pos e] at hj; cases hj; subst e
      exact ⟨M, upd_self .., by rw [hM]; exact hb⟩
    · rw [if_neg e, hget_hset] at hj
      by_cases e' : j = i
      · rw [if_pos e'] at hj; cases hj
      · rw [if_neg e'] at hj
        obtain ⟨N, h1, h2⟩ := h.blk j c hj
        refine ⟨N, hle j N h1, ?_⟩
        rw [hf.block N.b (h.lt hj h1) (fun e2 => e' (h.inj j i N L (by rw [hj]; exact Option.some_ne_none _) hlive h1 hL e2))]
        exact h2.mono hle
  · intro j k N O hj hk hN hO e
    rcases cases' j hj with rfl | ⟨hne, hji, hj⟩
    · rcases cases' k hk with rfl | ⟨hne', hki, hk⟩
      · rfl
      · rw [upd_self] at hN; cases hN
        exact absurd (h.inj k i O L hk hlive (at_ k O hO hne') hL (by omega)) hki
    · rcases cases' k hk with rfl | ⟨hne', hki, hk⟩
      · rw [upd_self] at hO; cases hO
        exact absurd (h.inj j i N L hj hlive (at_ j N hN hne) hL (by omega)) hji
      · exact h.inj j k N O hj hk (at_ j N hN hne) (at_ k O hO hne') e
  · intro j N hN
    unfold upd at hN
    by_cases e : j = H.nx
    · subst e; omega
    · rw [if_neg e] at hN; have := h.nx j N hN; omega
end Go.Xe
