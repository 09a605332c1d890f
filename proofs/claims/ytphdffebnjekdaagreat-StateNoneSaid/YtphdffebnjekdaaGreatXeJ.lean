/- A region that draws its order: the tables. -/
import Derived.Test.YtphdffebnjekdaaGreatXeI
namespace Go.Xe
open Go
section
variable {P : Program} {cl : CallT} {n : Nat} {ops : Array Oper} {ro : Option Nat}
theorem mem_takeWhile {i x : Nat} : ∀ {l : List Nat} {q : Nat}, l[q]? = some i → (l.takeWhile (· != i)).contains x = true → ∃ q', q' < q ∧ l[q']? = some x
  | [], _, h, _ => by simp at h
  | y :: l, q, h, hx => by
    by_cases e : y = i
    · subst e; simp at hx
    · rw [List.takeWhile_cons, if_pos (by simpa using e), List.contains_cons, Bool.or_eq_true] at hx
      cases q with
      | zero => simp only [List.getElem?_cons_zero, Option.some.injEq] at h; exact absurd h e
      | succ q =>
        rcases hx with hx | hx
        · rw [beq_iff_eq] at hx; exact ⟨0, by omega, by rw [hx]; rfl⟩
        · obtain ⟨q', h1, h2⟩ := mem_takeWhile (q := q) (by simpa using h) hx
          exact ⟨q' + 1, by omega, by simpa using h2⟩
theorem ordB_spec {B cs : List Nat} : ∀ {l seen : List Nat}, ordB B cs l seen = true → ∀ (q i : Nat), l[q]? = some i → i ∉ seen ∧ (∀ (q' j : Nat), q' < q → l[q']? = some j → j ≠ i) ∧
    (cs.contains i = true → (∀ j ∈ seen, (B.getD i 0).testBit j = true) ∧ ∀ (q' j : Nat), q' < q → l[q']? = some j → (B.getD i 0).testBit j = true)
  | [], _, _, _, _, h => by simp at h
  | x :: l, seen, h, q, i, hq => by
    simp only [ordB, Bool.and_eq_true] at h
    obtain ⟨⟨h1, h2⟩, h3⟩ := h
    cases q with
    | zero =>
      simp only [List.getElem?_cons_zero, Option.some.injEq] at hq
      subst hq
      refine ⟨fun hm => ?_, fun q' j hlt => by omega, fun hc => ⟨fun j hj => ?_, fun q' j hlt => by omega⟩⟩
      · have : seen.contains x = true := List.contains_iff_mem.2 hm
        rw [this] at h1; cases h1
      · rw [hc] at h2
        exact List.all_eq_true.1 h2 j hj
    | succ q =>
      obtain ⟨a1, a2, a3⟩ := ordB_spec h3 q i (by simpa using hq)
      refine ⟨fun hm => a1 (List.mem_cons_of_mem _ hm), fun q' j hlt hj => ?_, fun hc => ⟨fun j hj => (a3 hc).1 j (List.mem_cons_of_mem _ hj), fun q' j hlt hj => ?_⟩⟩
      · cases q' with
        | zero => simp only [List.getElem?_cons_zero, Option.some.injEq] at hj; subst hj; exact fun e => a1 (e ▸ List.mem_cons_self)
        | succ q' => exact a2 q' j (by omega) (by simpa using hj)
      · cases q' with
        | zero => simp only [List.getElem?_cons_zero, Option.some.injEq] at hj; subst hj; exact (a3 hc).1 _ List.mem_cons_self
        | succ q' => exact (a3 hc).2 q' j (by omega) (by simpa using hj)
theorem nodup_dst {t : Tmp} : ∀ {l : List Oper} {i j : Nat} {x y : Oper}, (l.filterMap (·.dst)).Nodup → l[i]? = some x → l[j]? = some y → x.dst = some t → y.dst = some t → i = j
  | [], _, _, _, _, _, h, _, _, _ => by simp at h
  | z :: l, i, j, x, y, hn, hi, hj, hx, hy => by
    have hn' : (l.filterMap (·.dst)).Nodup := by
      rw [List.filterMap_cons] at hn
      cases hz : z.dst with
      | none => rw [hz] at hn; exact hn
      | some u => rw [hz] at hn; exact (List.nodup_cons.1 hn).2
    have hnot : ∀ {k : Nat} {u : Oper}, z.dst = some t → l[k]? = some u → u.dst = some t → False := fun {k u} hz hk hu => by
      rw [List.filterMap_cons, hz] at hn
      exact (List.nodup_cons.1 hn).1 (List.mem_filterMap.2 ⟨u, List.mem_of_getElem? hk, hu⟩)
    cases i with
    | zero =>
      simp only [List.getElem?_cons_zero, Option.some.injEq] at hi
      subst hi
      cases j with
      | zero => rfl
      | succ j => exact (hnot hx (by simpa using hj) hy).elim
    | succ i =>
      cases j with
      | zero =>
        simp only [List.getElem?_cons_zero, Option.some.injEq] at hj
        subst hj
        exact (hnot hy (by simpa using hi) hx).elim
      | succ j => exact congrArg Nat.succ (nodup_dst hn' (by simpa using hi) (by simpa using hj) hx hy)
theorem cs_iff {i : Nat} {o : Oper} (hi : ops[i]? = some o) : (csOf (ops.toList.map fun o => cXG P ops o .p)).contains i = isC (xo P o) := by
  have e : (ops.toList.map fun o => cXG P ops o .p)[i]? = some (cXG P ops o .p) := by simp [hi]
  rw [Bool.eq_iff_iff, List.contains_iff_mem]
  unfold csOf
  rw [List.mem_filter, List.mem_range, e]
  constructor
  · intro h; exact h.2
  · intro h; exact ⟨(List.getElem?_eq_some_iff.1 e).1, h⟩
theorem getD_of {l : List Nat} {q i : Nat} (h : l[q]? = some i) : l.getD q 0 = i := by simp [List.getD, h]
/-- Where a load looks. -/
theorem win_ok {l B cs : List Nat} {T : Nat → St} {op : Nat → Oper} {m : Nat} (hst : ∀ q, q < m → (T (q + 1)).hs = if isC (xo P (op q)) = true then (T (q + 1)).H :: (T q).hs else (T q).hs) (hl : ∀ q, q < m → ∃ i, l[q]? = some i ∧ cs.contains i = isC (xo P (op q))) (i p : Nat) :
    ∀ k, p + k ≤ m → (∀ q', p ≤ q' → q' < p + k → isC (xo P (op q')) = true → ¬ (B.getD i 0).testBit (l.getD q' 0) = true) → ∃ j, j ≤ win B cs i ((l.take (p + k)).reverse) ∧ ∀ h, (T p).hs[0]? = some h → (T (p + k)).hs[j]? = some h
  | 0, _, _ => ⟨0, Nat.zero_le _, fun h e => e⟩
  | k + 1, hk, hw => by
    obtain ⟨j, h1, h2⟩ := win_ok hst hl i p k (by omega) fun q' a b => hw q' a (by omega)
    obtain ⟨x, e1, e2⟩ := hl (p + k) (by omega)
    have hs := hst (p + k) (by omega)
    have ht : l.take (p + (k + 1)) = l.take (p + k) ++ [x] := by
      rw [show p + (k + 1) = (p + k) + 1 by omega, List.take_add_one, e1]; rfl
    have hwin : win B cs i ((l.take (p + (k + 1))).reverse) = (if (cs.contains x && !(B.getD i 0).testBit x) = true then 1 else 0) + win B cs i ((l.take (p + k)).reverse) := by
      unfold win
      rw [ht, List.reverse_append, List.reverse_singleton, List.singleton_append, List.filter_cons]
      split
      · rw [List.length_cons]; omega
      · omega
    rw [hwin]
    cases hc : isC (xo P (op (p + k))) with
    | true =>
      rw [hc] at e2 hs
      rw [if_pos rfl] at hs
      have hb := hw (p + k) (by omega) (by omega) hc
      rw [getD_of e1] at hb
      have hb' : (B.getD i 0).testBit x = false := by
        cases hx : (B.getD i 0).testBit x with
        | true => exact absurd hx hb
        | false => rfl
      rw [e2, hb']
      refine ⟨j + 1, by simp; omega, fun h e => ?_⟩
      rw [show p + (k + 1) = p + k + 1 by omega, hs, List.getElem?_cons_succ]
      exact h2 h e
    | false =>
      rw [hc] at hs
      rw [if_neg (by simp)] at hs
      refine ⟨j, by omega, fun h e => ?_⟩
      rw [show p + (k + 1) = p + k + 1 by omega, hs]
      exact h2 h e
theorem bl_full {s : Pl} {H : Heap} {w : World} (h : Rel P s H w) : bl s H.nx.toNat = s := by
  funext i
  unfold bl
  by_cases e : i.toNat < H.nx.toNat
  · rw [if_pos e]
  · rw [if_neg e]
    cases hs : s i with
    | none => rfl
    | some L => exact absurd (h.nx i L hs) e
theorem drawn_ok (hcl : CallOK P cl) (hn : n ≤ 256) (hmix : P.follows .mixedOrders = true) {id : Nat} (hok : okC P n (.region id ops true) = true) : CodeOK P cl n (.region id ops true) := fun k r D H h => by
  have hok : (ops.toList.all (okXG n ops) && okDr P ops) = true := hok
  rw [Bool.and_eq_true] at hok
  obtain ⟨hok1, hok2⟩ := hok
  have hok1 : ∀ o ∈ ops.toList, okXG n ops o = true := fun o ho => List.all_eq_true.1 hok1 o ho
  have harr : ops.toList.toArray = ops := by simp
  have hlen : ops.toList.length = ops.size := by simp
  let B := waits ops.toList
  let gs := ops.toList.map fun o => cXG P ops o .p
  let ord := orderD B ops.toList.length (csOf gs) []
  have h : runD P (drawn B (csOf gs) gs ord []) cl (k .normal) [H] r D H = true := h
  have hok2 : okDraw ops.toList B (csOf gs) ord = true := hok2
  unfold okDraw at hok2
  simp only [Bool.and_eq_true, decide_eq_true_eq] at hok2
  obtain ⟨⟨⟨⟨⟨⟨⟨d1, d2⟩, d3⟩, d4⟩, d5⟩, d6⟩, d7⟩, d8⟩ := hok2
  obtain ⟨T, v, e1, e2, e3⟩ := drawn_trace (k := k .normal) hcl hok1 ord [] ⟨[H], r, D, H⟩ h
  have hord := ordB_spec d6
  have hin : ∀ q i, ord[q]? = some i → i < ops.size ∧ ∀ j, j < ops.size → (B.getD i 0).testBit j = true → ∃ q', q' < q ∧ ord[q']? = some j := fun q i hq => by
    have h1 := List.all_eq_true.1 d8 i (List.mem_of_getElem? hq)
    simp only [Bool.and_eq_true, decide_eq_true_eq, hlen] at h1
    refine ⟨h1.1, fun j hj hb => ?_⟩
    have h2 := List.all_eq_true.1 h1.2 j (List.mem_range.2 hj)
    rw [hb] at h2
    exact mem_takeWhile hq h2
  let m := ord.length
  have get : ∀ q, q < m → ord[q]? = some (ord.getD q 0) := fun q hq => by
    have h1 : ord[q]? = some ord[q] := List.getElem?_eq_getElem hq
    rw [h1, getD_of h1]
  have lt : ∀ q, q < m → ord.getD q 0 < ops.size := fun q hq => (hin q _ (get q hq)).1
  let op : Nat → Oper := fun q => (ops[ord.getD q 0]?).getD default
  have at_ : ∀ q, q < m → ops[ord.getD q 0]? = some (op q) := fun q hq => by
    show _ = some ((ops[ord.getD q 0]?).getD default)
    rw [Array.getElem?_eq_getElem (lt q hq)]; rfl
  have inj : ∀ q q', q < m → q' < m → ord.getD q 0 = ord.getD q' 0 → q = q' := fun q q' h1 h2 e => by
    rcases Nat.lt_trichotomy q q' with h3 | h3 | h3
    · exact absurd e ((hord q' _ (get q' h2)).2.1 q _ h3 (get q h1))
    · exact h3
    · exact absurd e.symm ((hord q _ (get q h1)).2.1 q' _ h3 (get q' h2))
  have surj : ∀ i, i < ops.size → ∃ q, q < m ∧ ord.getD q 0 = i := fun i hi => by
    have h1 := List.all_eq_true.1 d7 i (List.mem_range.2 (by rw [hlen]; exact hi))
    obtain ⟨q, hq⟩ := List.mem_iff_getElem?.1 (List.contains_iff_mem.1 h1)
    exact ⟨q, (List.getElem?_eq_some_iff.1 hq).1, getD_of hq⟩
  have pos : ∀ q q', q < m → ord[q']? = some (ord.getD q 0) → q' = q := fun q q' h1 h2 => inj q' q (List.getElem?_eq_some_iff.1 h2).1 h1 (getD_of h2)
  have step : ∀ q, q < m → StepOK P ops (op q) (win B (csOf gs) (ord.getD q 0) (ord.take q).reverse) (T q) (v q) (T (q + 1)) := fun q hq => by
    obtain ⟨o, h1, h2⟩ := e3 q _ (get q hq)
    rw [at_ q hq] at h1; cases h1
    simpa using h2
  have toL : ∀ q, q < m → ops.toList[ord.getD q 0]? = some (op q) := fun q hq => by simpa using at_ q hq
  have dep : ∀ q q', q < m → q' < m → (B.getD (ord.getD q 0) 0).testBit (ord.getD q' 0) = true → q' < q := fun q q' h1 h2 hb => by
    obtain ⟨q2, h3, h4⟩ := (hin q _ (get q h1)).2 _ (lt q' h2) hb
    rw [pos q' q2 h2 h4] at h3; exact h3
  have t : TD P n ops m (fun q => ord.getD q 0) op (fun q q' => (B.getD (ord.getD q 0) 0).testBit (ord.getD q' 0) = true) (fun q => win B (csOf gs) (ord.getD q 0) (ord.take q).reverse) T v := by
    refine ⟨at_, step, fun q hq => hok1 _ (List.mem_of_getElem? (toL q hq)), dep, fun q q' hq hc hlt => ?_, fun q q' t h1 h2 h3 h4 => inj q q' h1 h2 (nodup_dst d1 (toL q h1) (toL q' h2) h3 h4), fun q q' t h1 h2 hne hl hd => ?_, fun q p hq hpq hw => ?_, hn⟩
    · exact ((hord q _ (get q hq)).2.2 (by rw [cs_iff (at_ q hq)]; exact hc)).2 q' _ hlt (get q' (by omega))
    · have h3 := List.all_eq_true.1 d5 _ (List.mem_range.2 (by rw [hlen]; exact lt q h1))
      rw [toL q h1, harr] at h3
      have h4 := List.all_eq_true.1 h3 t (List.mem_append_left _ hl)
      have h5 := List.all_eq_true.1 h4 _ (List.mem_range.2 (by rw [hlen]; exact lt q' h2))
      rw [toL q' h2] at h5
      have hni : ord.getD q' 0 ≠ ord.getD q 0 := fun e => hne (inj q q' h1 h2 e.symm)
      simp only [Bool.or_eq_true, beq_iff_eq, hni, false_or, hd, bne_self_eq_false, Bool.false_eq_true] at h5
      rcases Nat.lt_or_ge (ord.getD q 0) (ord.getD q' 0) with h6 | h6
      · rw [Nat.max_eq_right (Nat.le_of_lt h6), Nat.min_eq_left (Nat.le_of_lt h6)] at h5
        exact .inr h5
      · rw [Nat.max_eq_left h6, Nat.min_eq_right h6] at h5
        exact .inl h5
    · obtain ⟨j, h1, h2⟩ := win_ok (P := P) (l := ord) (B := B) (cs := csOf gs) (T := T) (op := op) (m := m) (fun q hq => (step q hq).hs) (fun q hq => ⟨_, get q hq, cs_iff (at_ q hq)⟩) (ord.getD q 0) p (q - p) (by omega) fun q' a b => hw q' a (by omega)
      rw [show p + (q - p) = q by omega] at h1 h2
      exact ⟨j, h1, h2⟩
  refine ⟨.normal, _, _, _, e2, fun ro s a w hs => ?_⟩
  have hR := hs.rel
  have hbl : bl s (NX T 0) = s := by unfold NX; rw [e1]; exact bl_full hR
  have hT0 : T 0 = ⟨[H], r, D, H⟩ := e1
  have hM0 : Mem P m op T s H w (fun q => q < m ∧ isL (Array.replicate ops.size false) (ord.getD q 0) = true) 0 s { w with drawn := w.drawn + 1 } := by
    have hf : ∀ q, ¬ (q < m ∧ isL (Array.replicate ops.size false) (ord.getD q 0) = true) := fun q hq => by rw [isL_none] at hq; cases hq.2
    refine ⟨Nat.zero_le _, fun q hq => by omega, fun q _ _ hq => absurd hq (hf q), ?_, fun q _ _ _ hq => absurd hq (hf q), fun q _ _ _ _ _ _ _ _ _ hq => absurd hq (hf q), fun i Lc hi => .inl ?_, ?_, ⟨rfl, rfl, rfl, Nat.le_refl _, fun _ _ _ => rfl⟩, fun β hb => .inl ?_⟩
    · rw [hbl, hT0]; exact ⟨hR.blk, hR.inj, hR.nx⟩
    · unfold NX; rw [hT0]; exact hR.nx i Lc hi
    · rw [hbl]; exact .refl s
    · rw [hbl, hT0] at hb; exact hb
  have hV0 : Val n m op T v (fun q => q < m ∧ isL (Array.replicate ops.size false) (ord.getD q 0) = true) s a.tmps := by
    refine ⟨hs.reg.1, fun q t _ hq => (by rw [isL_none] at hq; cases hq.2), fun t ht _ => ?_⟩
    rw [hbl, hT0]; exact hs.reg.2 t ht
  refine wpIn_region_any hmix (any_ok (s0 := s) (H0 := H) (w0 := w) t d3 d4 surj inj lt (fun sp a' w' g1 g2 g3 => ?_) ops.size (Array.replicate ops.size false) a _ 0 s ⟨by simp, fun i hi => by rw [isL_none] at hi; cases hi⟩ ?_ hM0 hV0 (by rw [hbl, hT0]; exact hs.dfr) (by rw [hT0]; rfl))
  · refine ⟨rfl, bl sp (NX T m), ⟨g1.mono, g1.fr, g1.im, g1.rel, ?_⟩, ⟨g1.rel, ⟨g2.size, fun x hx => ?_⟩, g3⟩⟩
    · have := t.nx_le (Nat.zero_le m) (Nat.le_refl m)
      unfold NX at this; rw [hT0] at this; exact this
    · have hx' : x < n := by rw [← g2.size]; exact hx
      rcases t.regs hx' m (Nat.le_refl _) with ⟨q, h1, h2, h3⟩ | ⟨h1, h2⟩
      · obtain ⟨h4, h5⟩ := g2.vals q x h1 h1 h2
        rw [h3]; exact gv_mono (bl_le (.refl _) (t.nx_le h1 (Nat.le_refl _))) h5
      · rw [h2]; exact gv_mono (bl_le (.refl _) (t.nx_le (Nat.zero_le m) (Nat.le_refl _))) (g2.init x hx fun q h3 _ => h1 q h3)
  · unfold cnt
    exact Nat.le_trans (List.length_filter_le _ _) (by rw [List.length_range]; exact Nat.le_refl _)
end
end Go.Xe
