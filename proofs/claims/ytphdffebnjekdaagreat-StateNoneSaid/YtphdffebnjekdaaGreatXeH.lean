/- A region that draws its order: whatever comes up when, it comes to what the one walk comes to. -/
import Derived.Test.YtphdffebnjekdaaGreatXeF
namespace Go.Xe
open Go
def bl (sp : Pl) (k : Nat) : Pl := fun i => if i.toNat < k then sp i else none
theorem bl_some {sp : Pl} {k : Nat} {i : Id} {L : Loc} (h : bl sp k i = some L) : i.toNat < k ∧ sp i = some L := by
  unfold bl at h
  by_cases e : i.toNat < k
  · rw [if_pos e] at h; exact ⟨e, h⟩
  · rw [if_neg e] at h; cases h
theorem bl_of {sp : Pl} {k : Nat} {i : Id} {L : Loc} (h : i.toNat < k) (e : sp i = some L) : bl sp k i = some L := by unfold bl; rw [if_pos h, e]
theorem bl_le {s t : Pl} {k j : Nat} (h : s.le t) (hk : k ≤ j) : (bl s k).le (bl t j) := fun i L e => by
  obtain ⟨h1, h2⟩ := bl_some e
  exact bl_of (by omega) (h i L h2)
section
variable {P : Program} {n : Nat} {ops : Array Oper} {m : Nat} {od : Nat → Nat} {op : Nat → Oper} {W : Nat → Nat → Prop} {ws : Nat → Nat} {T : Nat → St} {v : Nat → AV} {ro : Option Nat}
/-- The tables, and the one walk. -/
structure TD (P : Program) (n : Nat) (ops : Array Oper) (m : Nat) (od : Nat → Nat) (op : Nat → Oper) (W : Nat → Nat → Prop) (ws : Nat → Nat) (T : Nat → St) (v : Nat → AV) : Prop where
  at_ : ∀ q, q < m → ops[od q]? = some (op q)
  step : ∀ q, q < m → StepOK P ops (op q) (ws q) (T q) (v q) (T (q + 1))
  ok : ∀ q, q < m → okXG n ops (op q) = true
  dep : ∀ q q', q < m → q' < m → W q q' → q' < q
  cdep : ∀ q q', q < m → isC (xo P (op q)) = true → q' < q → W q q'
  uniq : ∀ q q' t, q < m → q' < m → (op q).dst = some t → (op q').dst = some t → q = q'
  sep : ∀ q q' t, q < m → q' < m → q ≠ q' → t ∈ (op q).looksAt ops → (op q').dst = some t → W q q' ∨ W q' q
  win : ∀ q p, q < m → p ≤ q → (∀ q', p ≤ q' → q' < q → isC (xo P (op q')) = true → ¬ W q q') → ∃ j, j ≤ ws q ∧ ∀ h, (T p).hs[0]? = some h → (T q).hs[j]? = some h
  n256 : n ≤ 256
abbrev NX (T : Nat → St) (q : Nat) : Nat := (T q).H.nx.toNat
theorem TD.nx_mono (t : TD P n ops m od op W ws T v) : ∀ (k q : Nat), q + k ≤ m → NX T q ≤ NX T (q + k)
  | 0, _, _ => Nat.le_refl _
  | k + 1, q, h => Nat.le_trans (t.nx_mono k q (by omega)) (t.step (q + k) (by omega)).nx
theorem TD.nx_le (t : TD P n ops m od op W ws T v) {q q' : Nat} (h : q ≤ q') (h' : q' ≤ m) : NX T q ≤ NX T q' := by
  have := t.nx_mono (q' - q) q (by omega)
  rwa [show q + (q' - q) = q' by omega] at this
def Gr (P : Program) (op : Nat → Oper) (T : Nat → St) (q : Nat) (blk : Blk) : Prop := isC (xo P (op q)) = false ∧ Grow (T q).H (T (q + 1)).H blk
def Ins (L : Nat → Prop) (q : Nat) : Nat → Prop := fun j => L j ∨ j = q
/-- The memory, of what is through. -/
structure Mem (P : Program) (m : Nat) (op : Nat → Oper) (T : Nat → St) (s0 : Pl) (H0 : Heap) (w0 : World) (L : Nat → Prop) (p : Nat) (sp : Pl) (w : World) : Prop where
  pm : p ≤ m
  bef : ∀ q, q < p → L q
  early : ∀ q, q < m → p ≤ q → L q → isC (xo P (op q)) = false
  rel : Rel P (bl sp (NX T p)) (T p).H w
  ext : ∀ q blk, q < m → p ≤ q → L q → Gr P op T q blk → ∃ Lc, sp (T q).H.nx = some Lc ∧ w0.heap.size ≤ Lc.b ∧ Lc.b < w.heap.size ∧ ¬ img (bl sp (NX T p)) (T p).H Lc.b ∧ BlkRel P (bl sp (NX T q)) Lc blk w.heap[Lc.b]?
  einj : ∀ q q' blk blk' Lc Lc', q < m → q' < m → p ≤ q → p ≤ q' → L q → L q' → Gr P op T q blk → Gr P op T q' blk' → sp (T q).H.nx = some Lc → sp (T q').H.nx = some Lc' → Lc.b = Lc'.b → q = q'
  only : ∀ i Lc, sp i = some Lc → i.toNat < NX T p ∨ ∃ q blk, q < m ∧ p ≤ q ∧ L q ∧ Gr P op T q blk ∧ i = (T q).H.nx
  mono : s0.le (bl sp (NX T p))
  fr : Fr (img s0 H0) w0 w
  im : ∀ β, img (bl sp (NX T p)) (T p).H β → img s0 H0 β ∨ w0.heap.size ≤ β
/-- The slots. -/
structure Val (n m : Nat) (op : Nat → Oper) (T : Nat → St) (v : Nat → AV) (L : Nat → Prop) (sp : Pl) (tmps : Array Value) : Prop where
  size : tmps.size = n
  vals : ∀ q t, q < m → L q → (op q).dst = some t → ∃ h : t < tmps.size, gv (bl sp (NX T (q + 1))) (v q) = some tmps[t]
  init : ∀ t (h : t < tmps.size), (∀ q, q < m → L q → (op q).dst ≠ some t) → gv (bl sp (NX T 0)) (rget (cP t).1 (cP t).2 (T 0).r) = some tmps[t]
variable {s0 : Pl} {H0 : Heap} {w0 w : World} {L : Nat → Prop} {p q : Nat} {sp : Pl} {a : Act}
theorem Val.mono {tmps : Array Value} {sp' : Pl} (h : sp.le sp') (k : Val n m op T v L sp tmps) : Val n m op T v L sp' tmps :=
  ⟨k.size, fun q t h1 h2 h3 => let ⟨h4, h5⟩ := k.vals q t h1 h2 h3; ⟨h4, gv_mono (bl_le h (Nat.le_refl _)) h5⟩, fun t h1 h2 => gv_mono (bl_le h (Nat.le_refl _)) (k.init t h1 h2)⟩
theorem Val.put (t : TD P n ops m od op W ws T v) (hV : Val n m op T v L sp a.tmps) (hq : q < m) (hn : ¬ L q) {u : Value} (hu : gv (bl sp (NX T (q + 1))) (v q) = some u) :
    Val n m op T v (Ins L q) sp (a.put (op q).dst u).tmps := by
  have hk := (okXG_spec (t.ok q hq)).1
  cases hd : (op q).dst with
  | none =>
    refine ⟨hV.size, fun q' x h1 h2 h3 => ?_, fun x h1 h2 => hV.init x h1 fun q' h3 h4 => h2 q' h3 (.inl h4)⟩
    rcases h2 with h2 | rfl
    · exact hV.vals q' x h1 h2 h3
    · rw [hd] at h3; cases h3
  | some y =>
    rw [hd] at hk
    have hy : y < n := by unfold okT at hk; rwa [Nat.blt_eq] at hk
    have hy' : y < a.tmps.size := by rw [hV.size]; exact hy
    show Val n m op T v (Ins L q) sp (a.tmps.setIfInBounds y u)
    refine ⟨by rw [Array.size_setIfInBounds]; exact hV.size, fun q' x h1 h2 h3 => ?_, fun x h1 h2 => ?_⟩
    · rcases h2 with h2 | rfl
      · obtain ⟨h4, h5⟩ := hV.vals q' x h1 h2 h3
        refine ⟨by rw [Array.size_setIfInBounds]; exact h4, ?_⟩
        have hne : y ≠ x := fun e => hn (by subst e; rw [t.uniq q q' y hq h1 hd h3]; exact h2)
        rw [h5, Array.getElem_setIfInBounds_ne _ hne]
      · rw [hd] at h3; cases h3
        refine ⟨by rw [Array.size_setIfInBounds]; exact hy', ?_⟩
        rw [hu, Array.getElem_setIfInBounds_self]
    · have hne : y ≠ x := fun e => h2 q hq (.inr rfl) (by rw [hd, e])
      rw [Array.size_setIfInBounds] at h1
      rw [Array.getElem_setIfInBounds_ne _ hne]
      exact hV.init x h1 fun q' h3 h4 => h2 q' h3 (.inl h4)
/-- The one walk's slots. -/
theorem TD.regs (t : TD P n ops m od op W ws T v) {x : Tmp} (hx : x < n) : ∀ q, q ≤ m → (∃ q', q' < q ∧ (op q').dst = some x ∧ rget (cP x).1 (cP x).2 (T q).r = v q') ∨
    ((∀ q', q' < q → (op q').dst ≠ some x) ∧ rget (cP x).1 (cP x).2 (T q).r = rget (cP x).1 (cP x).2 (T 0).r)
  | 0, _ => .inr ⟨fun q' h => by omega, rfl⟩
  | q + 1, h => by
    have hr := (t.step q (by omega)).regs
    rw [hr]
    have hk := (okXG_spec (t.ok q (by omega))).1
    by_cases hd : (op q).dst = some x
    · refine .inl ⟨q, by omega, hd, ?_⟩
      rw [hd]
      show rget _ _ (rset (cP x).1 (cP x).2 (v q) (T q).r) = _
      rw [rget_rset, if_pos ⟨rfl, rfl⟩]
    · have e : rget (cP x).1 (cP x).2 (Xe.put (cD (op q).dst) (v q) (T q).r) = rget (cP x).1 (cP x).2 (T q).r := by
        cases hdq : (op q).dst with
        | none => rfl
        | some y =>
          rw [hdq] at hk hd
          have hy : y < n := by unfold okT at hk; rwa [Nat.blt_eq] at hk
          show rget _ _ (rset (cP y).1 (cP y).2 (v q) (T q).r) = _
          rw [rget_rset, if_neg]
          intro e
          exact hd (congrArg some (cP_inj (Nat.lt_of_lt_of_le hy t.n256) (Nat.lt_of_lt_of_le hx t.n256) (Prod.ext e.1.symm e.2.symm)))
      rw [e]
      rcases t.regs hx q (by omega) with ⟨q', h1, h2, h3⟩ | ⟨h1, h2⟩
      · exact .inl ⟨q', by omega, h2, h3⟩
      · refine .inr ⟨fun q' h3 => ?_, h2⟩
        by_cases e' : q' = q
        · rw [e']; exact hd
        · exact h1 q' (by omega)
/-- What an operation looks at, is there. -/
theorem TD.look (t : TD P n ops m od op W ws T v) (hV : Val n m op T v L sp a.tmps) (hq : q < m) (hn : ¬ L q) (hdep : ∀ q', q' < m → W q q' → L q') (hcl : ∀ q q', q < m → q' < m → L q → W q q' → L q')
    {x : Tmp} (hx : x < n) (hl : x ∈ (op q).looksAt ops) : ∃ h : x < a.tmps.size, gv (bl sp (NX T q)) (rget (cP x).1 (cP x).2 (T q).r) = some a.tmps[x] := by
  have hx' : x < a.tmps.size := by rw [hV.size]; exact hx
  refine ⟨hx', ?_⟩
  rcases t.regs hx q (by omega) with ⟨q', h1, h2, h3⟩ | ⟨h1, h2⟩
  · have hq' : q' < m := by omega
    have hL : L q' := by
      rcases t.sep q q' x hq hq' (by omega) hl h2 with h | h
      · exact hdep q' hq' h
      · have := t.dep q' q hq' hq h; omega
    obtain ⟨h4, h5⟩ := hV.vals q' x hq' hL h2
    rw [h3]
    exact gv_mono (bl_le (Pl.le.refl _) (t.nx_le (by omega) (by omega))) h5
  · rw [h2]
    refine gv_mono (bl_le (Pl.le.refl _) (t.nx_le (Nat.zero_le q) (by omega))) (hV.init x hx' fun q' h3 h4 h5 => ?_)
    have hne : q ≠ q' := fun e => hn (by rw [e]; exact h4)
    have hlt : q ≤ q' := Nat.le_of_not_lt fun h => h1 q' h h5
    rcases t.sep q q' x hq h3 hne hl h5 with h | h
    · have := t.dep q q' hq h3 h; omega
    · exact hn (hcl q' q h3 hq h4 h)
theorem TD.opR (t : TD P n ops m od op W ws T v) (hV : Val n m op T v L sp a.tmps) (hq : q < m) (hn : ¬ L q) (hdep : ∀ q', q' < m → W q q' → L q') (hcl : ∀ q q', q < m → q' < m → L q → W q q' → L q') :
    OpR (bl sp (NX T q)) (T q).r a.eval (op q) := fun y hy => by
  have hok := Array.all_eq_true_iff_forall_mem.1 (okXG_spec (t.ok q hq)).2.1 y hy
  cases y with
  | tmp x =>
    have hx : x < n := by unfold okO at hok; rwa [Nat.blt_eq] at hok
    obtain ⟨h1, h2⟩ := t.look hV hq hn hdep hcl hx (List.mem_append_left _ (List.mem_filterMap.2 ⟨.tmp x, by simpa using hy, rfl⟩))
    show gv _ (rget (cP x).1 (cP x).2 (T q).r) = some (a.tmps.getD x undef)
    rw [h2]; simp [Array.getD, h1]
  | const v => exact gv_ofV v
  | global g => rfl
  | func f =>
    have hf : f < 4096 := by unfold okO at hok; rwa [Nat.blt_eq] at hok
    show gv _ (.func (Fid.ofNat f) [] []) = _
    simp only [gv, gvs, Fid.toNat_ofNat hf]; rfl
theorem TD.want (t : TD P n ops m od op W ws T v) (hV : Val n m op T v L sp a.tmps) (hq : q < m) (hn : ¬ L q) (hdep : ∀ q', q' < m → W q q' → L q') (hcl : ∀ q q', q < m → q' < m → L q → W q q' → L q')
    {b : Bool} (hb : WantIs ops (op q) (T q).r b) : Region.wanted (op q) (yielded ops a.tmps) = b := hb (bl sp (NX T q)) a.tmps fun j want x hg hx => by
  obtain ⟨x', h1, h2⟩ := (okXG_spec (t.ok q hq)).2.2 j want hg
  rw [hx] at h1; cases h1
  exact t.look hV hq hn hdep hcl h2 (List.mem_append_right _ (by rw [hg]; simp [hx]))
/-- Such as it is, of the kinds. -/
theorem TD.quiet (t : TD P n ops m od op W ws T v) (hq : q < m) (hc : isC (xo P (op q)) = false) : (T (q + 1)).D = (T q).D ∧ ((T (q + 1)).H = (T q).H ∨ ∃ blk, Grow (T q).H (T (q + 1)).H blk) := by
  cases (t.step q hq).kind with
  | skip _ _ h1 h2 => exact ⟨h1, .inl h2⟩
  | pure _ _ _ _ h1 h2 => exact ⟨h1, .inl h2⟩
  | alloc _ _ _ blk _ _ _ h1 h2 => exact ⟨h1, .inr ⟨blk, h2⟩⟩
  | load _ _ _ _ h1 h2 => exact ⟨h1, .inl h2⟩
  | full _ h1 _ => rw [kd_isC.2 h1] at hc; cases hc
theorem not_gr {blk : Blk} (h : (T (q + 1)).H = (T q).H) : ¬ Gr P op T q blk := fun hg => by
  have := hg.2.1; rw [h] at this; omega
/-- On, over what is through. -/
theorem Mem.adv (t : TD P n ops m od op W ws T v) (h : Mem P m op T s0 H0 w0 L p sp w) (hp : p < m) (hL : L p) : Mem P m op T s0 H0 w0 L (p + 1) sp w := by
  have hc := h.early p hp (Nat.le_refl _) hL
  have bef : ∀ q, q < p + 1 → L q := fun q hq => by
    by_cases e : q = p
    · rw [e]; exact hL
    · exact h.bef q (by omega)
  have early : ∀ q, q < m → p + 1 ≤ q → L q → isC (xo P (op q)) = false := fun q a b c => h.early q a (by omega) c
  have einj : ∀ q q' blk blk' Lc Lc', q < m → q' < m → p + 1 ≤ q → p + 1 ≤ q' → L q → L q' → Gr P op T q blk → Gr P op T q' blk' → sp (T q).H.nx = some Lc → sp (T q').H.nx = some Lc' → Lc.b = Lc'.b → q = q' :=
    fun q q' blk blk' Lc Lc' a b c d => h.einj q q' blk blk' Lc Lc' a b (by omega) (by omega)
  rcases (t.quiet hp hc).2 with e | ⟨blk, hg⟩
  · have eN : NX T (p + 1) = NX T p := by unfold NX; rw [e]
    refine ⟨by omega, bef, early, by rw [eN, e]; exact h.rel, fun q blk a b c d => ?_, einj, fun i Lc hi => ?_, by rw [eN]; exact h.mono, h.fr, by rw [eN, e]; exact h.im⟩
    · rw [eN, e]; exact h.ext q blk a (by omega) c d
    · rw [eN]
      rcases h.only i Lc hi with h1 | ⟨q, blk, h1, h2, h3, h4, h5⟩
      · exact .inl h1
      · refine .inr ⟨q, blk, h1, ?_, h3, h4, h5⟩
        have : q ≠ p := fun e' => by subst e'; exact not_gr e h4
        omega
  · have hGr : Gr P op T p blk := ⟨hc, hg⟩
    obtain ⟨Lc, e1, e2, e3, e4, e5⟩ := h.ext p blk hp (Nat.le_refl _) hL hGr
    have eN : NX T (p + 1) = NX T p + 1 := hg.1
    have hle : (bl sp (NX T p)).le (bl sp (NX T (p + 1))) := bl_le (Pl.le.refl _) (by omega)
    have live : ∀ i, hget (T (p + 1)).H i ≠ none → i = (T p).H.nx ∨ (i ≠ (T p).H.nx ∧ hget (T p).H i ≠ none) := fun i hi => by
      rw [hg.2] at hi
      by_cases e : i = (T p).H.nx
      · exact .inl e
      · rw [if_neg e] at hi; exact .inr ⟨e, hi⟩
    have back : ∀ i M, bl sp (NX T (p + 1)) i = some M → i ≠ (T p).H.nx → bl sp (NX T p) i = some M := fun i M hi hne => by
      obtain ⟨h1, h2⟩ := bl_some hi
      refine bl_of ?_ h2
      have : i.toNat ≠ NX T p := fun e => hne (Id.toNat_inj e)
      omega
    have hnew : bl sp (NX T (p + 1)) (T p).H.nx = some Lc := bl_of (by show NX T p < NX T (p + 1); omega) e1
    have img' : ∀ β, img (bl sp (NX T (p + 1))) (T (p + 1)).H β → img (bl sp (NX T p)) (T p).H β ∨ β = Lc.b := fun β ⟨i, M, h1, h2, h3⟩ => by
      rcases live i h1 with rfl | ⟨hne, h1⟩
      · rw [hnew] at h2; cases h2; exact .inr h3.symm
      · exact .inl ⟨i, M, h1, back i M h2 hne, h3⟩
    refine ⟨by omega, bef, early, ⟨fun i b hi => ?_, fun i j M N hi hj hM hN e => ?_, fun i M hM => (bl_some hM).1⟩, fun q blk' a b c d => ?_, einj, fun i M hi => ?_, h.mono.trans hle, h.fr, fun β hb => ?_⟩
    · rw [hg.2] at hi
      by_cases e : i = (T p).H.nx
      · rw [if_pos e] at hi; cases hi; subst e
        exact ⟨Lc, hnew, e5.mono hle⟩
      · rw [if_neg e] at hi
        obtain ⟨M, h1, h2⟩ := h.rel.blk i b hi
        exact ⟨M, hle i M h1, h2.mono hle⟩
    · rcases live i hi with rfl | ⟨hne, hi⟩
      · rcases live j hj with rfl | ⟨hne', hj⟩
        · rfl
        · rw [hnew] at hM; cases hM
          exact absurd ⟨j, N, hj, back j N hN hne', e.symm⟩ e4
      · rcases live j hj with rfl | ⟨hne', hj⟩
        · rw [hnew] at hN; cases hN
          exact absurd ⟨i, M, hi, back i M hM hne, e⟩ e4
        · exact h.rel.inj i j M N hi hj (back i M hM hne) (back j N hN hne') e
    · obtain ⟨M, a1, a2, a3, a4, a5⟩ := h.ext q blk' a (by omega) c d
      refine ⟨M, a1, a2, a3, fun hi => ?_, a5⟩
      rcases img' _ hi with h1 | h1
      · exact a4 h1
      · have := h.einj q p blk' blk M Lc a hp (by omega) (Nat.le_refl _) c hL d hGr a1 e1 h1
        omega
    · rcases h.only i M hi with h1 | ⟨q, blk', h1, h2, h3, h4, h5⟩
      · exact .inl (by omega)
      · by_cases e' : q = p
        · subst e'; subst h5; exact .inl (by show NX T q < NX T (q + 1); omega)
        · exact .inr ⟨q, blk', h1, by omega, h3, h4, h5⟩
    · rcases img' β hb with h1 | rfl
      · exact h.im β h1
      · exact .inr e2
theorem Mem.advTo (t : TD P n ops m od op W ws T v) : ∀ (k p : Nat), Mem P m op T s0 H0 w0 L p sp w → p + k ≤ m → (∀ q, p ≤ q → q < p + k → L q) → Mem P m op T s0 H0 w0 L (p + k) sp w ∧ (T (p + k)).D = (T p).D
  | 0, p, h, _, _ => ⟨h, rfl⟩
  | k + 1, p, h, hk, hL => by
    have h1 := h.adv t (by omega) (hL p (Nat.le_refl _) (by omega))
    obtain ⟨h2, h3⟩ := Mem.advTo t k (p + 1) h1 (by omega) fun q a b => hL q (by omega) (by omega)
    rw [show p + (k + 1) = p + 1 + k by omega]
    exact ⟨h2, h3.trans (t.quiet (by omega) (h.early p (by omega) (Nat.le_refl _) (hL p (Nat.le_refl _) (by omega)))).1⟩
/-- One more that leaves the memory. -/
theorem Mem.same (h : Mem P m op T s0 H0 w0 L p sp w) (hc : isC (xo P (op q)) = false) (e : (T (q + 1)).H = (T q).H) : Mem P m op T s0 H0 w0 (Ins L q) p sp w := by
  have un : ∀ {q' blk}, Ins L q q' → Gr P op T q' blk → L q' := fun hi hg => by
    rcases hi with hi | rfl
    · exact hi
    · exact absurd hg (not_gr e)
  refine ⟨h.pm, fun q' a => .inl (h.bef q' a), fun q' a b c => ?_, h.rel, fun q' blk a b c d => h.ext q' blk a b (un c d) d, fun q1 q2 b1 b2 L1 L2 x1 x2 x3 x4 x5 x6 x7 x8 => h.einj q1 q2 b1 b2 L1 L2 x1 x2 x3 x4 (un x5 x7) (un x6 x8) x7 x8,
    fun i Lc hi => ?_, h.mono, h.fr, h.im⟩
  · rcases c with c | rfl
    · exact h.early q' a b c
    · exact hc
  · rcases h.only i Lc hi with h1 | ⟨q', blk, h1, h2, h3, h4⟩
    · exact .inl h1
    · exact .inr ⟨q', blk, h1, h2, .inl h3, h4⟩
theorem TD.gr_inj (t : TD P n ops m od op W ws T v) {q' : Nat} {b b' : Blk} (hq : q < m) (hq' : q' < m) (h : Gr P op T q b) (h' : Gr P op T q' b') (e : (T q).H.nx = (T q').H.nx) : q = q' := by
  have e : NX T q = NX T q' := by unfold NX; rw [e]
  have h1 : NX T (q + 1) = NX T q + 1 := h.2.1
  have h2 : NX T (q' + 1) = NX T q' + 1 := h'.2.1
  rcases Nat.lt_trichotomy q q' with h3 | h3 | h3
  · have := t.nx_le (q := q + 1) (q' := q') (by omega) (by omega); omega
  · exact h3
  · have := t.nx_le (q := q' + 1) (q' := q) (by omega) (by omega); omega
/-- One more that makes memory. -/
theorem Mem.alloc (t : TD P n ops m od op W ws T v) (h : Mem P m op T s0 H0 w0 L p sp w) (hq : q < m) (hpq : p ≤ q) (hn : ¬ L q) {blk : Blk} (hg : Gr P op T q blk) {obj : Obj} {w' : World} {Lc : Loc}
    (hw : w'.heap = w.heap.push obj) (ho : w'.os = w.os) (ht : w'.tape = w.tape) (hu : w'.output = w.output) (hb : Lc.b = w.heap.size) (hB : BlkRel P (bl sp (NX T q)) Lc blk (some obj)) :
    sp.le (upd sp (T q).H.nx Lc) ∧ Mem P m op T s0 H0 w0 (Ins L q) p (upd sp (T q).H.nx Lc) w' := by
  have fresh : sp (T q).H.nx = none := by
    cases hs : sp (T q).H.nx with
    | none => rfl
    | some M =>
      rcases h.only _ M hs with h1 | ⟨q', b', h1, h2, h3, h4, h5⟩
      · have := t.nx_le hpq (Nat.le_of_lt hq)
        have h1 : NX T q < NX T p := h1
        omega
      · exact absurd (by rw [t.gr_inj hq h1 hg h4 h5]; exact h3) hn
  have hle := upd_le (L := Lc) fresh
  have hbl : ∀ k, k ≤ NX T q → bl (upd sp (T q).H.nx Lc) k = bl sp k := fun k hk => by
    funext i
    unfold bl upd
    by_cases e : i.toNat < k
    · rw [if_pos e, if_pos e, if_neg]
      intro e'; subst e'
      have : NX T q < k := e
      omega
    · rw [if_neg e, if_neg e]
  have old : ∀ k, k < w.heap.size → w'.heap[k]? = w.heap[k]? := fun k hk => by rw [hw, Array.getElem?_push]; simp [Nat.ne_of_lt hk]
  have hsz : w'.heap.size = w.heap.size + 1 := by rw [hw, Array.size_push]
  have hpN : bl (upd sp (T q).H.nx Lc) (NX T p) = bl sp (NX T p) := hbl _ (t.nx_le hpq (Nat.le_of_lt hq))
  have w0le := h.fr.size
  have imlt : ∀ β, img (bl sp (NX T p)) (T p).H β → β < w.heap.size := fun β ⟨i, M, h1, h2, h3⟩ => by
    cases hx : hget (T p).H i with
    | none => exact absurd hx h1
    | some b => rw [← h3]; exact h.rel.lt hx h2
  have find : ∀ {q' blk'}, q' < m → Ins L q q' → Gr P op T q' blk' → (q' = q ∧ upd sp (T q).H.nx Lc (T q').H.nx = some Lc) ∨ (q' ≠ q ∧ L q' ∧ upd sp (T q).H.nx Lc (T q').H.nx = sp (T q').H.nx) := fun {q' blk'} h1 hi hg' => by
    by_cases e : q' = q
    · subst e; exact .inl ⟨rfl, upd_self ..⟩
    · refine .inr ⟨e, hi.resolve_right e, ?_⟩
      unfold upd
      rw [if_neg]
      exact fun e' => e (t.gr_inj h1 hq hg' hg e')
  refine ⟨hle, h.pm, fun q' a => .inl (h.bef q' a), fun q' a b c => ?_, ?_, fun q' blk' a b c d => ?_, fun q1 q2 b1 b2 L1 L2 x1 x2 x3 x4 x5 x6 x7 x8 x9 x10 x11 => ?_, fun i M hi => ?_, by rw [hpN]; exact h.mono,
    ⟨ho.trans h.fr.os, ht.trans h.fr.tape, hu.trans h.fr.output, by omega, fun k hk hnk => (old k (by omega)).trans (h.fr.block k hk hnk)⟩, by rw [hpN]; exact h.im⟩
  · rcases c with c | rfl
    · exact h.early q' a b c
    · exact hg.1
  · rw [hpN]
    refine ⟨fun i b hi => ?_, h.rel.inj, h.rel.nx⟩
    obtain ⟨M, h1, h2⟩ := h.rel.blk i b hi
    refine ⟨M, h1, ?_⟩
    rw [old _ (h.rel.lt hi h1)]; exact h2
  · rcases find a c d with ⟨rfl, e⟩ | ⟨hne, hL, e⟩
    · have hbk : blk' = blk := by
        have h1 := d.2.2 (T q').H.nx
        rw [hg.2.2, if_pos rfl, if_pos rfl] at h1
        exact (Option.some.inj h1).symm
      subst hbk
      refine ⟨Lc, e, by omega, by omega, ?_, ?_⟩
      · rw [hpN]; intro hi; have := imlt _ hi; omega
      · rw [hw, hb, Array.getElem?_push_size, hbl _ (Nat.le_refl _)]; exact hB
    · obtain ⟨M, a1, a2, a3, a4, a5⟩ := h.ext q' blk' a b hL d
      refine ⟨M, by rw [e]; exact a1, a2, by omega, by rw [hpN]; exact a4, ?_⟩
      rw [old _ a3]
      exact a5.mono (bl_le hle (Nat.le_refl _))
  · have lt_ : ∀ {q' blk' M}, q' < m → p ≤ q' → L q' → Gr P op T q' blk' → sp (T q').H.nx = some M → M.b < w.heap.size := fun {q' blk' M} y1 y2 y3 y4 y5 => by
      obtain ⟨M', a1, a2, a3, a4, a5⟩ := h.ext q' blk' y1 y2 y3 y4
      rw [y5] at a1; cases a1; exact a3
    rcases find x1 x5 x7 with ⟨rfl, e⟩ | ⟨hne, hL, e⟩
    · rcases find x2 x6 x8 with ⟨rfl, e'⟩ | ⟨hne', hL', e'⟩
      · rfl
      · rw [e] at x9; cases x9
        rw [e'] at x10
        have := lt_ x2 x4 hL' x8 x10; omega
    · rcases find x2 x6 x8 with ⟨rfl, e'⟩ | ⟨hne', hL', e'⟩
      · rw [e'] at x10; cases x10
        rw [e] at x9
        have := lt_ x1 x3 hL x7 x9; omega
      · rw [e] at x9; rw [e'] at x10
        exact h.einj q1 q2 b1 b2 L1 L2 x1 x2 x3 x4 hL hL' x7 x8 x9 x10 x11
  · unfold upd at hi
    by_cases e : i = (T q).H.nx
    · exact .inr ⟨q, blk, hq, hpq, .inr rfl, hg, e⟩
    · rw [if_neg e] at hi
      rcases h.only i M hi with h1 | ⟨q', blk', h1, h2, h3, h4⟩
      · exact .inl h1
      · exact .inr ⟨q', blk', h1, h2, .inl h3, h4⟩
/-- A call, or a store, of what stands. -/
theorem Mem.full (t : TD P n ops m od op W ws T v) (h : Mem P m op T s0 H0 w0 L q sp w) (hq : q < m) (hn : ¬ L q) (hc : isC (xo P (op q)) = true) {s' : Pl} {w' : World}
    (hE : Ev P (bl sp (NX T q)) (T q).H w s' (T (q + 1)).H w') : ∃ sp', sp.le sp' ∧ bl sp' (NX T (q + 1)) = s' ∧ Mem P m op T s0 H0 w0 (Ins L q) (q + 1) sp' w' := by
  have hnl : ∀ {q'}, q' < m → q ≤ q' → Ins L q q' → q + 1 ≤ q' → L q' := fun {q'} a b c d => by
    rcases c with c | rfl
    · exact c
    · omega
  have only' : ∀ i M, sp i = some M → i.toNat < NX T q ∨ (NX T (q + 1) ≤ i.toNat ∧ ∃ q' blk, q' < m ∧ q + 1 ≤ q' ∧ L q' ∧ Gr P op T q' blk ∧ i = (T q').H.nx) := fun i M hi => by
    rcases h.only i M hi with h1 | ⟨q', blk, h1, h2, h3, h4, h5⟩
    · exact .inl h1
    · have hne : q' ≠ q := fun e => by subst e; exact hn h3
      refine .inr ⟨?_, q', blk, h1, by omega, h3, h4, h5⟩
      subst h5
      exact t.nx_le (by omega) (by omega)
  have s'lt : ∀ i M, s' i = some M → i.toNat < NX T (q + 1) := hE.rel.nx
  refine ⟨fun i => if i.toNat < NX T (q + 1) then s' i else sp i, fun i M hi => ?_, ?_, ?_⟩
  · rcases only' i M hi with h1 | ⟨h1, _⟩
    · have h2 := hE.mono i M (bl_of h1 hi)
      show (if i.toNat < NX T (q + 1) then s' i else sp i) = some M
      rw [if_pos (s'lt i M h2)]; exact h2
    · show (if i.toNat < NX T (q + 1) then s' i else sp i) = some M
      rw [if_neg (by omega)]; exact hi
  · funext i
    unfold bl
    by_cases e : i.toNat < NX T (q + 1)
    · rw [if_pos e]; exact if_pos e
    · rw [if_neg e]
      cases hs : s' i with
      | none => rfl
      | some M => exact absurd (s'lt i M hs) e
  · have hbl : bl (fun i => if i.toNat < NX T (q + 1) then s' i else sp i) (NX T (q + 1)) = s' := by
      funext i
      unfold bl
      by_cases e : i.toNat < NX T (q + 1)
      · rw [if_pos e]; exact if_pos e
      · rw [if_neg e]
        cases hs : s' i with
        | none => rfl
        | some M => exact absurd (s'lt i M hs) e
    have hle : sp.le (fun i => if i.toNat < NX T (q + 1) then s' i else sp i) := fun i M hi => by
      rcases only' i M hi with h1 | ⟨h1, _⟩
      · have h2 := hE.mono i M (bl_of h1 hi)
        show (if i.toNat < NX T (q + 1) then s' i else sp i) = some M
        rw [if_pos (s'lt i M h2)]; exact h2
      · show (if i.toNat < NX T (q + 1) then s' i else sp i) = some M
        rw [if_neg (by omega)]; exact hi
    have hi_ : ∀ {q'}, q' < m → q + 1 ≤ q' → (fun i : Id => if i.toNat < NX T (q + 1) then s' i else sp i) (T q').H.nx = sp (T q').H.nx := fun {q'} a b => by
      show (if (T q').H.nx.toNat < NX T (q + 1) then s' _ else sp _) = _
      rw [if_neg]
      have := t.nx_le b (Nat.le_of_lt a)
      unfold NX at this ⊢; omega
    refine ⟨by omega, fun q' a => ?_, fun q' a b c => h.early q' a (by omega) (hnl a (by omega) c b), by rw [hbl]; exact hE.rel, fun q' blk a b c d => ?_,
      fun q1 q2 b1 b2 L1 L2 x1 x2 x3 x4 x5 x6 x7 x8 x9 x10 x11 => ?_, fun i M hi => ?_, by rw [hbl]; exact h.mono.trans hE.mono,
      ⟨hE.fr.os.trans h.fr.os, hE.fr.tape.trans h.fr.tape, hE.fr.output.trans h.fr.output, Nat.le_trans h.fr.size hE.fr.size, fun k hk hnk => ?_⟩, fun β hb => ?_⟩
    · by_cases e : q' = q
      · exact .inr e
      · exact .inl (h.bef q' (by omega))
    · obtain ⟨M, a1, a2, a3, a4, a5⟩ := h.ext q' blk a (by omega) (hnl a (by omega) c b) d
      refine ⟨M, (hi_ a b).trans a1, a2, Nat.lt_of_lt_of_le a3 hE.fr.size, fun hi => ?_, ?_⟩
      · rw [hbl] at hi
        rcases hE.im _ hi with h1 | h1
        · exact a4 h1
        · omega
      · rw [hE.fr.block _ a3 a4]; exact a5.mono (bl_le hle (Nat.le_refl _))
    · have x9 := (hi_ x1 x3).symm.trans x9
      have x10 := (hi_ x2 x4).symm.trans x10
      exact h.einj q1 q2 b1 b2 L1 L2 x1 x2 (by omega) (by omega) (hnl x1 (by omega) x5 x3) (hnl x2 (by omega) x6 x4) x7 x8 x9 x10 x11
    · have hi : (if i.toNat < NX T (q + 1) then s' i else sp i) = some M := hi
      by_cases e : i.toNat < NX T (q + 1)
      · exact .inl e
      · rw [if_neg e] at hi
        rcases only' i M hi with h1 | ⟨_, q', blk, h1, h2, h3, h4, h5⟩
        · have : NX T q ≤ NX T (q + 1) := (t.step q hq).nx
          omega
        · exact .inr ⟨q', blk, h1, h2, .inl h3, h4, h5⟩
    · rw [hE.fr.block k (Nat.lt_of_lt_of_le hk h.fr.size) (fun hi => ?_), h.fr.block k hk hnk]
      rcases h.im k hi with h1 | h1
      · exact hnk h1
      · omega
    · rw [hbl] at hb
      rcases hE.im β hb with h1 | h1
      · exact h.im β h1
      · exact .inr (Nat.le_trans h.fr.size h1)
end
end Go.Xe
