/- A region that draws its order: every order comes to what the one walk comes to. -/
import Derived.Test.YtphdffebnjekdaaGreatXeH
namespace Go.Xe
open Go
section
variable {P : Program} {n : Nat} {ops : Array Oper} {m : Nat} {od : Nat → Nat} {op : Nat → Oper} {W : Nat → Nat → Prop} {ws : Nat → Nat} {T : Nat → St} {v : Nat → AV} {ro : Option Nat}
variable {s0 : Pl} {H0 : Heap} {w0 w : World} {L : Nat → Prop} {p q : Nat} {sp : Pl} {a : Act}
theorem put_dfr (a : Act) (d : Option Tmp) (u : Value) : (a.put d u).defers = a.defers := by cases d <;> rfl
theorem put_tmps (a : Act) (ds : List Deferred) (d : Option Tmp) (u : Value) : (({ a with defers := ds } : Act).put d u).tmps = (a.put d u).tmps := by cases d <;> rfl
theorem step_any (t : TD P n ops m od op W ws T v) {Q : Exit → Act → World → Prop} {K : Act → World → Prop} (hM : Mem P m op T s0 H0 w0 L p sp w) (hV : Val n m op T v L sp a.tmps) (hD : DRel (bl sp (NX T p)) ro (T p).D a.defers) (hb : (T p).hs[0]? = some (T p).H)
    (hq : q < m) (hn : ¬ L q) (hdep : ∀ q', q' < m → W q q' → L q') (hcl : ∀ q q', q < m → q' < m → L q → W q q' → L q')
    (hK : ∀ p' sp' a' w', Mem P m op T s0 H0 w0 (Ins L q) p' sp' w' → Val n m op T v (Ins L q) sp' a'.tmps → DRel (bl sp' (NX T p')) ro (T p').D a'.defers → (T p').hs[0]? = some (T p').H → K a' w') :
    wpOpIn (fz ro) 0 P ops Q (od q) K a w := by
  have hpq : p ≤ q := Nat.le_of_not_lt fun h => hn (hM.bef q h)
  have hO := t.opR hV hq hn hdep hcl
  have hst := t.step q hq
  unfold wpOpIn
  simp only [t.at_ q hq]
  cases hc : isC (xo P (op q)) with
  | false =>
    cases hst.kind with
    | skip hw hv h1 h2 =>
      rw [if_neg (by rw [t.want hV hq hn hdep hcl hw]; simp)]
      exact ⟨fun _ _ => trivial, hK p sp _ _ (hM.same hc h2) (hV.put t hq hn (by rw [hv]; rfl)) (by rw [put_dfr]; exact hD) hb⟩
    | pure hw hk hd hv h1 h2 =>
      rw [if_pos (t.want hV hq hn hdep hcl hw)]
      obtain ⟨u, e1, e2⟩ := hv _ _ hO
      exact wpIn_run hd (e2 w) (hK p sp _ _ (hM.same hc h2) (hV.put t hq hn (gv_mono (bl_le (.refl _) hst.nx) e1)) (by rw [put_dfr]; exact hD) hb)
    | alloc hw hk hd blk mk hv he h1 h2 =>
      rw [if_pos (t.want hV hq hn hdep hcl hw)]
      obtain ⟨obj, w', u, Lc, e1, e2, e3, e4, e5, e6, e7, e8⟩ := hv _ _ hO w
      obtain ⟨f1, f2⟩ := hM.alloc t hq hpq hn ⟨hc, h2⟩ e2 e3 e4 e5 e6 e7
      refine wpIn_run hd e1 (hK p _ _ _ f2 ((hV.mono f1).put t hq hn ?_) (by rw [put_dfr]; exact hD.mono (bl_le f1 (Nat.le_refl _))) hb)
      rw [he]
      refine e8 _ _ (bl_of ?_ (upd_self ..))
      have := h2.1
      show NX T q < NX T (q + 1)
      unfold NX; omega
    | load hw hk hd hv h1 h2 =>
      rw [if_pos (t.want hV hq hn hdep hcl hw)]
      obtain ⟨j, j1, j2⟩ := t.win q p hq hpq fun q' a b c d => by
        have := hM.early q' (by omega) a (hdep q' (by omega) d)
        rw [this] at c; cases c
      obtain ⟨h, h3, h4⟩ := hv j j1
      rw [j2 _ hb] at h3; cases h3
      obtain ⟨u, e1, e2⟩ := h4 _ _ w _ hM.rel (bl_le (.refl sp) (t.nx_le hpq (Nat.le_of_lt hq))) hO
      exact wpIn_run hd e2 (hK p sp _ _ (hM.same hc h2) (hV.put t hq hn (gv_mono (bl_le (.refl _) (Nat.le_trans (t.nx_le hpq (Nat.le_of_lt hq)) hst.nx)) e1)) (by rw [put_dfr]; exact hD) hb)
    | full hw hk hv => rw [kd_isC.2 hk] at hc; cases hc
  | true =>
    have hall : ∀ q', p ≤ q' → q' < p + (q - p) → L q' := fun q' _ h => hdep q' (by omega) (t.cdep q q' hq hc (by omega))
    obtain ⟨hM', hD'⟩ := Mem.advTo t (q - p) p hM (by omega) hall
    rw [show p + (q - p) = q by omega] at hM' hD'
    have hD2 : DRel (bl sp (NX T q)) ro (T q).D a.defers := by rw [hD']; exact hD.mono (bl_le (.refl _) (t.nx_le hpq (Nat.le_of_lt hq)))
    have hb' : (T (q + 1)).hs[0]? = some (T (q + 1)).H := by rw [hst.hs, if_pos hc]; rfl
    cases hst.kind with
    | skip hw hv h1 h2 =>
      rw [if_neg (by rw [t.want hV hq hn hdep hcl hw]; simp)]
      have hE : Ev P (bl sp (NX T q)) (T q).H w (bl sp (NX T q)) (T (q + 1)).H w := by rw [h2]; exact .refl hM'.rel
      obtain ⟨sp', f1, f2, f3⟩ := hM'.full t hq hn hc hE
      refine ⟨fun _ _ => trivial, hK (q + 1) sp' _ _ f3 ((hV.mono f1).put t hq hn (by rw [hv]; rfl)) ?_ hb'⟩
      rw [put_dfr, f2, h1]; exact hD2
    | full hw hk hv =>
      rw [if_pos (t.want hV hq hn hdep hcl hw)]
      refine Oper.wpIn_mono (fun a' w' hh => ?_) (hv ro _ w a Q hM'.rel hO hD2)
      obtain ⟨u, s', ds, rfl, e1, e2, e3⟩ := hh
      obtain ⟨sp', f1, f2, f3⟩ := hM'.full t hq hn hc e2
      refine hK (q + 1) sp' _ _ f3 ?_ ?_ hb'
      · rw [put_tmps]; exact (hV.mono f1).put t hq hn (by rw [f2]; exact e1)
      · rw [put_dfr, f2]; exact e3
    | pure hw hk hd hv h1 h2 => rw [kd_isC, hk] at hc; cases hc
    | alloc hw hk => rw [kd_isC, hk] at hc; cases hc
    | load hw hk => rw [kd_isC, hk] at hc; cases hc
/-! Which are listed. -/
def isL (listed : Array Bool) (i : Nat) : Bool := listed.getD i false
theorem isL_none (m j : Nat) : isL (Array.replicate m false) j = false := by
  unfold isL
  rcases Nat.lt_or_ge j m with h | h
  · simp [h]
  · simp [Nat.not_lt.2 h]
theorem isL_set {listed : Array Bool} {i : Nat} (hi : i < listed.size) (j : Nat) : isL (listed.setIfInBounds i true) j = if j = i then true else isL listed j := by
  unfold isL
  by_cases h : j = i
  · subst h; simp [hi]
  · rw [getD_set_ne false (Ne.symm h), if_neg h]
structure LG (l : List Oper) (B : List Nat) (listed : Array Bool) : Prop where
  size : listed.size = l.length
  closed : ∀ i, isL listed i = true → ∀ j, j < l.length → (B.getD i 0).testBit j = true → isL listed j = true
section
variable {l : List Oper} {B : List Nat} {listed : Array Bool} {i : Nat}
theorem just_bit (h : justB l B = true) {o : Oper} (hi : l[i]? = some o) {j : Nat} (hj : j < l.length) (hb : (B.getD i 0).testBit j = true) :
    j < i ∧ ∃ e ∈ o.after, Region.binds .any e = true ∧ (e.on = j ∨ (B.getD e.on 0).testBit j = true) := by
  have hl : i < l.length := (List.getElem?_eq_some_iff.1 hi).1
  have h1 := List.all_eq_true.1 h i (List.mem_range.2 hl)
  rw [hi] at h1
  rw [Bool.and_eq_true] at h1
  have h2 := List.all_eq_true.1 h1.2 j (List.mem_range.2 hj)
  simp only [hb, Bool.not_true, Bool.false_or, Bool.and_eq_true, decide_eq_true_eq] at h2
  obtain ⟨e, he, h3⟩ := Array.any_eq_true'.1 h2.2
  simp only [Bool.and_eq_true, Bool.or_eq_true, beq_iff_eq] at h3
  exact ⟨h2.1, e, he, h3.1, h3.2⟩
theorem ready_bits (h : justB l B = true) (hg : LG l B listed) (hr : i ∈ Region.ready .any l.toArray listed) {j : Nat} (hj : j < l.length) (hb : (B.getD i 0).testBit j = true) : isL listed j = true := by
  obtain ⟨_, o, ho, hall⟩ := mem_ready.1 hr
  obtain ⟨_, e, he, hbd, h1⟩ := just_bit h (by simpa using ho) hj hb
  have hl := hall e he hbd
  rcases h1 with rfl | h1
  · exact hl
  · exact hg.closed e.on hl j hj h1
theorem LG.step (h : justB l B = true) (hg : LG l B listed) (hr : i ∈ Region.ready .any l.toArray listed) : LG l B (listed.setIfInBounds i true) := by
  have hil : i < listed.size := by
    obtain ⟨_, o, ho, _⟩ := mem_ready.1 hr
    rw [hg.size]; exact (List.getElem?_eq_some_iff.1 (by simpa using ho : l[i]? = some o)).1
  refine ⟨by simp [hg.size], fun k hk j hj hb => ?_⟩
  rw [isL_set hil] at hk ⊢
  by_cases hji : j = i
  · rw [if_pos hji]
  · rw [if_neg hji]
    by_cases hki : k = i
    · subst hki; exact ready_bits h hg hr hj hb
    · rw [if_neg hki] at hk; exact hg.closed k hk j hj hb
theorem unl {j : Nat} (hs : listed.size = l.length) (hj : j < l.length) : listed.getD j true = isL listed j := by
  unfold isL; simp [hs, hj]
theorem ready_some (hbk : backB l = true) (hs : listed.size = l.length) : ∀ (m i : Nat), i ≤ m → i < l.length → isL listed i = false → Region.ready .any l.toArray listed ≠ [] := by
  intro m
  induction m with
  | zero =>
    intro i hm hi hu h0
    have e : i = 0 := by omega
    subst e
    have hr : 0 ∈ Region.ready .any l.toArray listed := mem_ready.2 ⟨by rw [unl hs hi]; exact hu, l[0], by simp [hi], fun e he hb => by
      have h1 := List.all_eq_true.1 hbk 0 (List.mem_range.2 hi)
      rw [List.getElem?_eq_getElem hi] at h1
      have := Array.all_eq_true_iff_forall_mem.1 h1 e he
      simp [hb] at this⟩
    rw [h0] at hr; cases hr
  | succ m ih =>
    intro i hm hi hu
    by_cases hall : ∀ e ∈ l[i].after, Region.binds .any e = true → isL listed e.on = true
    · intro h0
      have hr : i ∈ Region.ready .any l.toArray listed := mem_ready.2 ⟨by rw [unl hs hi]; exact hu, l[i], by simp [hi], hall⟩
      rw [h0] at hr; cases hr
    · have : ∃ e, e ∈ l[i].after ∧ Region.binds .any e = true ∧ isL listed e.on ≠ true := by
        apply Classical.byContradiction
        intro hc
        exact hall fun e he hb => Classical.byContradiction fun hx => hc ⟨e, he, hb, hx⟩
      obtain ⟨e, he, hbd, hx⟩ := this
      have h1 := List.all_eq_true.1 hbk i (List.mem_range.2 hi)
      rw [List.getElem?_eq_getElem hi] at h1
      have h2 := Array.all_eq_true_iff_forall_mem.1 h1 e he
      simp only [hbd, Bool.not_true, Bool.false_or, decide_eq_true_eq] at h2
      exact ih e.on (by omega) (by omega) (by simpa using hx)
theorem count_up {p : Nat → Bool} : ∀ {r : List Nat}, r.Nodup → i ∈ r → p i = true → (r.filter fun j => p j && j != i).length + 1 = (r.filter p).length
  | [], _, hi, _ => by cases hi
  | x :: r, hn, hi, hp => by
    rw [List.nodup_cons] at hn
    rcases List.mem_cons.1 hi with rfl | hi
    · have h1 : (r.filter fun j => p j && j != i) = r.filter p := List.filter_congr fun j hj => by
        have : j ≠ i := fun e => hn.1 (e ▸ hj)
        simp [this]
      rw [List.filter_cons, List.filter_cons]
      simp [hp, h1]
    · have hx : x ≠ i := fun e => hn.1 (e ▸ hi)
      have h1 := count_up hn.2 hi hp
      rw [List.filter_cons, List.filter_cons]
      by_cases hpx : p x = true
      · simp only [hpx, Bool.true_and, bne_iff_ne, ne_eq, hx, not_false_eq_true, if_true, List.length_cons]; omega
      · simp only [hpx, Bool.false_and, Bool.false_eq_true, if_false]; exact h1
end
def cnt (N : Nat) (listed : Array Bool) : Nat := ((List.range N).filter fun i => !isL listed i).length
/-- Whatever order is drawn. -/
theorem any_ok {B : List Nat} (t : TD P n ops m od op (fun q q' => (B.getD (od q) 0).testBit (od q') = true) ws T v) (hj : justB ops.toList B = true) (hbk : backB ops.toList = true) (hsurj : ∀ i, i < ops.size → ∃ q, q < m ∧ od q = i)
    (hinj : ∀ q q', q < m → q' < m → od q = od q' → q = q') (hlt : ∀ q, q < m → od q < ops.size) {Q : Exit → Act → World → Prop}
    (hQ : ∀ sp a w, Mem P m op T s0 H0 w0 (fun q => q < m) m sp w → Val n m op T v (fun q => q < m) sp a.tmps → DRel (bl sp (NX T m)) ro (T m).D a.defers → Q .normal a w) :
    ∀ (fuel : Nat) (listed : Array Bool) (a : Act) (w : World) (p : Nat) (sp : Pl), LG ops.toList B listed → cnt ops.size listed ≤ fuel → Mem P m op T s0 H0 w0 (fun q => q < m ∧ isL listed (od q) = true) p sp w →
      Val n m op T v (fun q => q < m ∧ isL listed (od q) = true) sp a.tmps → DRel (bl sp (NX T p)) ro (T p).D a.defers → (T p).hs[0]? = some (T p).H → wpAnyIn (fz ro) 0 P .any ops Q fuel listed a w := by
  have hlen : ops.toList.length = ops.size := by simp
  have harr : ops.toList.toArray = ops := by simp
  intro fuel
  induction fuel with
  | zero =>
    intro listed a w p sp hg hcnt hM hV hD hb
    have hall : ∀ i, i < ops.size → isL listed i = true := fun i hi => by
      cases hx : isL listed i with
      | true => rfl
      | false =>
        have : i ∈ (List.range ops.size).filter fun i => !isL listed i := List.mem_filter.2 ⟨List.mem_range.2 hi, by rw [hx]; rfl⟩
        have := List.length_pos_of_mem this
        unfold cnt at hcnt; omega
    have hL : (fun q => q < m ∧ isL listed (od q) = true) = (fun q => q < m) := funext fun q => propext ⟨fun h => h.1, fun h => ⟨h, hall _ (hlt q h)⟩⟩
    rw [hL] at hM hV
    obtain ⟨h1, h2⟩ := Mem.advTo t (m - p) p hM (by have := hM.pm; omega) fun q _ h => by have := hM.pm; omega
    have hpm := hM.pm
    rw [show p + (m - p) = m by omega] at h1 h2
    refine wpAnyIn_done ?_ (hQ sp a w h1 hV (by rw [h2]; exact hD.mono (bl_le (.refl _) (t.nx_le hpm (Nat.le_refl _))))) 0
    cases hrd : Region.ready .any ops listed with
    | nil => rfl
    | cons x xs =>
      have hx : x ∈ Region.ready .any ops listed := by rw [hrd]; exact List.mem_cons_self
      obtain ⟨hu, o, ho, _⟩ := mem_ready.1 hx
      have hxl : x < ops.size := (Array.getElem?_eq_some_iff.1 ho).1
      rw [unl hg.size (by rw [hlen]; exact hxl), hall x hxl] at hu
      cases hu
  | succ fuel ih =>
    intro listed a w p sp hg hcnt hM hV hD hb
    by_cases hall : ∀ i, i < ops.size → isL listed i = true
    · have hL : (fun q => q < m ∧ isL listed (od q) = true) = (fun q => q < m) := funext fun q => propext ⟨fun h => h.1, fun h => ⟨h, hall _ (hlt q h)⟩⟩
      rw [hL] at hM hV
      obtain ⟨h1, h2⟩ := Mem.advTo t (m - p) p hM (by have := hM.pm; omega) fun q _ h => by have := hM.pm; omega
      have hpm := hM.pm
      rw [show p + (m - p) = m by omega] at h1 h2
      refine wpAnyIn_done ?_ (hQ sp a w h1 hV (by rw [h2]; exact hD.mono (bl_le (.refl _) (t.nx_le hpm (Nat.le_refl _))))) _
      cases hrd : Region.ready .any ops listed with
      | nil => rfl
      | cons x xs =>
        have hx : x ∈ Region.ready .any ops listed := by rw [hrd]; exact List.mem_cons_self
        obtain ⟨hu, o, ho, _⟩ := mem_ready.1 hx
        have hxl : x < ops.size := (Array.getElem?_eq_some_iff.1 ho).1
        rw [unl hg.size (by rw [hlen]; exact hxl), hall x hxl] at hu
        cases hu
    · have : ∃ i, i < ops.size ∧ isL listed i = false := by
        apply Classical.byContradiction
        intro hc
        exact hall fun i hi => by
          cases hx : isL listed i with
          | true => rfl
          | false => exact absurd ⟨i, hi, hx⟩ hc
      obtain ⟨i0, hi0, hu0⟩ := this
      refine ⟨fun h0 => absurd (by rw [harr]; exact h0) (ready_some hbk hg.size i0 i0 (Nat.le_refl _) (by rw [hlen]; exact hi0) hu0), fun i hi => ?_⟩
      obtain ⟨hu, o, ho, _⟩ := mem_ready.1 hi
      have hil : i < ops.size := (Array.getElem?_eq_some_iff.1 ho).1
      rw [unl hg.size (by rw [hlen]; exact hil)] at hu
      obtain ⟨q, hq, rfl⟩ := hsurj i hil
      have hi' : od q ∈ Region.ready .any ops.toList.toArray listed := by rw [harr]; exact hi
      refine step_any t hM hV hD hb hq (fun h => by rw [h.2] at hu; cases hu) (fun q' hq' hW => ⟨hq', ready_bits hj hg hi' (by rw [hlen]; exact hlt q' hq') hW⟩)
        (fun q1 q2 h1 h2 h3 h4 => ⟨h2, hg.closed _ h3.2 _ (by rw [hlen]; exact hlt q2 h2) h4⟩) fun p' sp' a' w' g1 g2 g3 g4 => ?_
      have hsz : od q < listed.size := by rw [hg.size, hlen]; exact hil
      have hL : Ins (fun q => q < m ∧ isL listed (od q) = true) q = (fun j => j < m ∧ isL (listed.setIfInBounds (od q) true) (od j) = true) := funext fun j => propext ⟨fun h => by
          rcases h with ⟨h1, h2⟩ | rfl
          · refine ⟨h1, ?_⟩
            rw [isL_set hsz, h2]; split <;> rfl
          · exact ⟨hq, by rw [isL_set hsz, if_pos rfl]⟩, fun ⟨h1, h2⟩ => by
          rw [isL_set hsz] at h2
          by_cases e : od j = od q
          · exact .inr (hinj j q h1 hq e)
          · rw [if_neg e] at h2; exact .inl ⟨h1, h2⟩⟩
      rw [hL] at g1 g2
      refine ih _ a' w' p' sp' (LG.step hj hg hi') ?_ g1 g2 g3 g4
      have hc := count_up (p := fun i => !isL listed i) (List.nodup_range (n := ops.size)) (List.mem_range.2 hil) (by rw [hu]; rfl)
      have he : ((List.range ops.size).filter fun j => !isL listed j && j != od q) = (List.range ops.size).filter fun j => !isL (listed.setIfInBounds (od q) true) j := List.filter_congr fun j _ => by
        rw [isL_set hsz]
        by_cases e : j = od q
        · simp [e]
        · simp [e]
      rw [he] at hc
      unfold cnt at hcnt ⊢
      omega
end
end Go.Xe
