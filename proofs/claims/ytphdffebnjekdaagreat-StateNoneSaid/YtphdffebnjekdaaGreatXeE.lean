/- A region in the order of its text; code. -/
import Derived.Test.YtphdffebnjekdaaGreatXeD
import Derived.LoopNIn
namespace Go.Xe
open Go
section
variable {P : Program} {cl : CallT} {o : Oper} {d : Dst} {s : Pl} {ρ : Operand → Value} {r : Regs} {n : Nat} {ro : Option Nat}
theorem cP_inj {a b : Nat} (ha : a < 256) (hb : b < 256) (h : cP a = cP b) : a = b := by
  simp only [cP, Prod.mk.injEq] at h
  have h1 := D.ofNat_inj (by omega) (by omega) h.1
  have h2 := D.ofNat_inj (by omega) (by omega) h.2
  omega
theorem RegRel.put {tmps : Array Value} {dst : Option Tmp} {v : AV} {u : Value} {s' : Pl} (h : RegRel s n r tmps) (hn : n ≤ 256) (hd : okT n dst = true) (hle : s.le s') (hv : gv s' v = some u) (ds : List Deferred) :
    RegRel s' n (put (cD dst) v r) (({ tmps := tmps, defers := ds } : Act).put dst u).tmps := by
  cases dst with
  | none => exact h.mono hle
  | some t =>
    have ht : t < n := by unfold okT at hd; rwa [Nat.blt_eq] at hd
    show RegRel s' n (rset (cP t).1 (cP t).2 v r) (tmps.setIfInBounds t u)
    refine ⟨by simp [h.1], fun i hi => ?_⟩
    rw [Array.size_setIfInBounds] at hi
    have hi' : i < n := by rw [← h.1]; exact hi
    rw [rget_rset, ← Array.getElem?_eq_getElem, Array.getElem?_setIfInBounds]
    by_cases e : t = i
    · subst e; rw [if_pos ⟨rfl, rfl⟩, hv, if_pos rfl, if_pos hi]
    · rw [if_neg (fun e' => e (cP_inj (Nat.lt_of_lt_of_le ht hn) (Nat.lt_of_lt_of_le hi' hn) (Prod.ext e'.1.symm e'.2.symm))), if_neg e, Array.getElem?_eq_getElem hi]
      exact gv_mono hle (h.2 i hi)
theorem RegRel.opnd {tmps : Array Value} {ds : List Deferred} (h : RegRel s n r tmps) {x : Operand} (hx : okO n x = true) : gv s (ov (cO x) r) = some (({ tmps := tmps, defers := ds } : Act).eval x) := by
  cases x with
  | tmp t =>
    have ht : t < n := by unfold okO at hx; rwa [Nat.blt_eq] at hx
    have ht' : t < tmps.size := by rw [h.1]; exact ht
    show gv s (rget (cP t).1 (cP t).2 r) = some (tmps.getD t undef)
    rw [h.2 t ht']; simp [Array.getD, ht']
  | const v => exact gv_ofV v
  | global g => rfl
  | func f =>
    have hf : f < 4096 := by unfold okO at hx; rwa [Nat.blt_eq] at hx
    show gv s (.func (Fid.ofNat f) [] []) = _
    simp only [gv, gvs, Fid.toNat_ofNat hf]; rfl
theorem RegRel.opR {a : Act} (h : RegRel s n r a.tmps) (hx : o.op.operands.all (okO n) = true) : OpR s r a.eval o := fun x hm => h.opnd (ds := a.defers) (Array.all_eq_true_iff_forall_mem.1 hx x hm)
theorem okXG_spec {ops : Array Oper} (h : okXG n ops o = true) : okT n o.dst = true ∧ o.op.operands.all (okO n) = true ∧ (∀ j want, o.guard = some (j, want) → ∃ t, (ops[j]?).bind (·.dst) = some t ∧ t < n) := by
  unfold okXG at h
  rw [Bool.and_eq_true, Bool.and_eq_true] at h
  refine ⟨h.1.1, h.1.2, fun j want hg => ?_⟩
  have h2 := h.2
  rw [hg] at h2
  dsimp only at h2
  split at h2
  · rename_i t ht; rw [Nat.blt_eq] at h2; exact ⟨t, ht, h2⟩
  · cases h2
/-- What the guard says, wherever what it looks at lies. -/
def WantIs (ops : Array Oper) (o : Oper) (r : Regs) (b : Bool) : Prop := ∀ (s : Pl) (tmps : Array Value),
  (∀ j want t, o.guard = some (j, want) → (ops[j]?).bind (·.dst) = some t → ∃ h : t < tmps.size, gv s (rget (cP t).1 (cP t).2 r) = some tmps[t]) → Region.wanted o (yielded ops tmps) = b
theorem gd_inv {ops : Array Oper} {x y : Bool} (hk : okXG n ops o = true) (hg : gd (cGd ops o) r x y = true) : (WantIs ops o r true ∧ x = true) ∨ (WantIs ops o r false ∧ y = true) := by
  unfold cGd at hg
  cases hgd : o.guard with
  | none =>
    rw [hgd] at hg
    exact .inl ⟨fun s tmps _ => by unfold Region.wanted; rw [hgd], hg⟩
  | some jw =>
    obtain ⟨j, want⟩ := jw
    obtain ⟨t, ht, htn⟩ := (okXG_spec hk).2.2 j want hgd
    rw [hgd] at hg
    simp only [ht] at hg
    have hg : gdA (rget (cP t).1 (cP t).2 r) want x y = true := hg
    have key : ∀ b, (∀ (s : Pl) (u : Value), gv s (rget (cP t).1 (cP t).2 r) = some u → ((match some u with | some (.bool b) => some b | _ => none) == some want) = b) → WantIs ops o r b := fun b hb s tmps hh => by
      obtain ⟨h1, h2⟩ := hh j want t hgd ht
      unfold Region.wanted
      rw [hgd]
      have hy : yielded ops tmps j = (match tmps[t]? with | some (.bool b) => some b | _ => none) := by simp only [yielded, ht, Option.bind_some]; rfl
      rw [Array.getElem?_eq_getElem h1] at hy
      show (yielded ops tmps j == some want) = b
      rw [hy]
      exact hb s _ h2
    cases hr : rget (cP t).1 (cP t).2 r with
    | bool b =>
      rw [hr] at hg key
      have hg : @Bool.rec (fun _ => Bool) (@Bool.rec (fun _ => Bool) x y want) (@Bool.rec (fun _ => Bool) y x want) b = true := hg
      have e : ∀ (s : Pl) (u : Value), gv s (.bool b) = some u → u = .bool b := fun s u h => gvv_bool h rfl
      cases b <;> cases want <;> first | exact .inl ⟨key true fun s u h => by rw [e s u h]; rfl, hg⟩ | exact .inr ⟨key false fun s u h => by rw [e s u h]; rfl, hg⟩
    | tuple l =>
      rw [hr] at hg key
      refine .inr ⟨key false fun s u h => ?_, hg⟩
      obtain ⟨vs, _, e⟩ := gvv_tuple h rfl
      rw [e]; rfl
    | _ => rw [hr] at hg; exact ft hg
structure Sim (P : Program) (n : Nat) (ro : Option Nat) (s : Pl) (r : Regs) (D : Dfr) (H : Heap) (a : Act) (w : World) : Prop where
  rel : Rel P s H w
  reg : RegRel s n r a.tmps
  dfr : DRel s ro D a.defers
theorem RegRel.wantOf {tmps : Array Value} {b : Bool} {ops : Array Oper} (h : RegRel s n r tmps) (hk : okXG n ops o = true) (hw : WantIs ops o r b) : Region.wanted o (yielded ops tmps) = b := hw s tmps fun j want t hg ht => by
  obtain ⟨t', h1, h2⟩ := (okXG_spec hk).2.2 j want hg
  rw [ht] at h1; cases h1
  have ht' : t < tmps.size := by rw [h.1]; exact h2
  exact ⟨ht', h.2 t ht'⟩
/-- A region in the order of its text. -/
theorem runOps_sound (hcl : CallOK P cl) (hn : n ≤ 256) {ops : Array Oper} {k : KO} : ∀ (l : List Nat) (os : List Oper), l.map (fun i => ops[i]?) = os.map some → (∀ o ∈ os, okXG n ops o = true) →
    ∀ (r : Regs) (D : Dfr) (H : Heap), runOps P (os.map fun o => cXG P ops o .p) cl k r D H = true → ∃ r' D' H', k r' D' H' = true ∧
      ∀ ro (s : Pl) (a : Act) (w : World) (Q : Exit → Act → World → Prop), Sim P n ro s r D H a w →
      (∀ s' a' w', Ev P s H w s' H' w' → Sim P n ro s' r' D' H' a' w' → Q .normal a' w') → wpOpsIn (fz ro) 0 P ops Q l a w
  | [], os, hl, _, r, D, H, h => by
    have : os = [] := by cases os <;> simp_all
    subst this
    exact ⟨r, D, H, h, fun ro s a w Q hs hq => hq s a w (.refl hs.rel) hs⟩
  | i :: l, os, hl, hok, r, D, H, h => by
    match os, hl with
    | o :: os, hl =>
    simp only [List.map_cons, List.cons.injEq] at hl
    have hok' := hok o (by simp)
    obtain ⟨k1, k2, k3⟩ := okXG_spec hok'
    have h : gd (cGd ops o) r (step P (cOp P o (cD o.dst)) cl (runOps P (os.map fun o => cXG P ops o .p) cl k) r D H) (runOps P (os.map fun o => cXG P ops o .p) cl k (put (cD o.dst) (.tuple []) r) D H) = true := h
    rcases gd_inv hok' h with ⟨hw, h⟩ | ⟨hw, h⟩
    · obtain ⟨v, D1, H1, h1, h2⟩ := (cOp_good o (cD o.dst)).1 cl hcl _ r D H h
      obtain ⟨r', D', H', g1, g2⟩ := runOps_sound hcl hn l os hl.2 (fun o ho => hok o (by simp [ho])) _ D1 H1 h1
      refine ⟨r', D', H', g1, fun ro s a w Q hs hq => ?_⟩
      rw [wpOpsIn_cons]
      unfold wpOpIn
      simp only [hl.1]
      rw [if_pos (hs.reg.wantOf hok' hw)]
      refine Oper.wpIn_mono (fun a' w' hh => ?_) (h2 ro s w a Q hs.rel (hs.reg.opR k2) hs.dfr)
      obtain ⟨u, s', ds, rfl, e1, e2, e3⟩ := hh
      have hreg := hs.reg.put hn k1 e2.mono e1 ds
      refine g2 ro s' _ w' Q ⟨e2.rel, hreg, ?_⟩ (fun s2 a2 w2 f1 f2 => hq s2 a2 w2 (e2.trans f1) f2)
      cases o.dst <;> exact e3
    · obtain ⟨r', D', H', g1, g2⟩ := runOps_sound hcl hn l os hl.2 (fun o ho => hok o (by simp [ho])) _ D H h
      refine ⟨r', D', H', g1, fun ro s a w Q hs hq => ?_⟩
      rw [wpOpsIn_cons]
      unfold wpOpIn
      simp only [hl.1]
      rw [if_neg (by rw [hs.reg.wantOf hok' hw]; simp)]
      refine ⟨fun _ _ => trivial, ?_⟩
      have hreg := hs.reg.put (v := .tuple []) (u := undef) hn k1 (.refl s) rfl a.defers
      refine g2 ro s _ w Q ⟨hs.rel, hreg, ?_⟩ hq
      cases o.dst <;> exact hs.dfr
theorem range_ops (ops : Array Oper) : (List.range ops.size).map (fun i => ops[i]?) = ops.toList.map some := by
  apply List.ext_getElem?
  intro j
  simp only [List.getElem?_map]
  by_cases h : j < ops.size
  · simp [h]
  · simp [h]
def exE : Ex → Exit
  | .normal => .normal
  | .exit i => .exit i
  | .ret => .ret
/-- What is asked of code: how it ends, and where. -/
def Post (P : Program) (n : Nat) (ro : Option Nat) (s : Pl) (H : Heap) (w : World) (e : Ex) (r' : Regs) (D' : Dfr) (H' : Heap) : Exit → Act → World → Prop := fun x a w' => x = exE e ∧ ∃ s', Ev P s H w s' H' w' ∧ Sim P n ro s' r' D' H' a w'
theorem Post.trans {s s' : Pl} {H H1 H' : Heap} {w w' w'' : World} {e : Ex} {r' : Regs} {D' : Dfr} {x : Exit} {a : Act} (h : Ev P s H w s' H1 w') (hp : Post P n ro s' H1 w' e r' D' H' x a w'') : Post P n ro s H w e r' D' H' x a w'' := by
  obtain ⟨h1, s2, h2, h3⟩ := hp
  exact ⟨h1, s2, h.trans h2, h3⟩
def CodeOK (P : Program) (cl : CallT) (n : Nat) (c : Code) : Prop := ∀ (k : Ex → KO) r D H, exec P (cC P c) cl k r D H = true → ∃ e r' D' H', k e r' D' H' = true ∧
  ∀ ro (s : Pl) (a : Act) (w : World), Sim P n ro s r D H a w → c.wpIn (fz ro) 0 P (Post P n ro s H w e r' D' H') a w
theorem region_ok (hcl : CallOK P cl) (hn : n ≤ 256) {id : Nat} {ops : Array Oper} (hok : okC P n (.region id ops false) = true) : CodeOK P cl n (.region id ops false) := fun k r D H h => by
  have hok : ops.toList.all (okXG n ops) = true := hok
  obtain ⟨r', D', H', h1, h2⟩ := runOps_sound hcl hn (List.range ops.size) ops.toList (range_ops ops) (fun o ho => List.all_eq_true.1 hok o ho) r D H h
  exact ⟨.normal, r', D', H', h1, fun ro s a w hs => wpIn_region (h2 ro s a w _ hs fun s' a' w' e1 e2 => ⟨rfl, s', e1, e2⟩)⟩
theorem seq_ok {x y : Code} (hx : CodeOK P cl n x) (hy : CodeOK P cl n y) : CodeOK P cl n (.seq x y) := fun k r D H h => by
  obtain ⟨e, r1, D1, H1, h1, h2⟩ := hx (fun e => seqK e (exec P (cC P y) cl) k) r D H h
  cases e with
  | normal =>
    obtain ⟨e, r', D', H', h3, h4⟩ := hy k r1 D1 H1 h1
    refine ⟨e, r', D', H', h3, fun ro s a w hs => wpIn_seq (wpIn_mono (h2 ro s a w hs) fun x a' w' hp => ?_)⟩
    obtain ⟨rfl, s', e1, e2⟩ := hp
    exact wpIn_mono (h4 ro s' a' w' e2) fun x a2 w2 hp => hp.trans e1
  | exit i =>
    refine ⟨.exit i, r1, D1, H1, h1, fun ro s a w hs => wpIn_seq (wpIn_mono (h2 ro s a w hs) fun x a' w' hp => ?_)⟩
    obtain ⟨rfl, hp⟩ := hp
    exact ⟨rfl, hp⟩
  | ret =>
    refine ⟨.ret, r1, D1, H1, h1, fun ro s a w hs => wpIn_seq (wpIn_mono (h2 ro s a w hs) fun x a' w' hp => ?_)⟩
    obtain ⟨rfl, hp⟩ := hp
    exact ⟨rfl, hp⟩
theorem cond_ok {c : Operand} {x y : Code} (hc : okO n c = true) (hx : CodeOK P cl n x) (hy : CodeOK P cl n y) : CodeOK P cl n (.cond c x y) := fun k r D H h => by
  rcases ifA_iff.1 (show ifA (ov (cO c) r) (exec P (cC P x) cl k r D H) (exec P (cC P y) cl k r D H) = true from h) with ⟨e, h⟩ | ⟨e, h⟩
  · obtain ⟨e', r', D', H', h1, h2⟩ := hx k r D H h
    refine ⟨e', r', D', H', h1, fun ro s a w hs => ?_⟩
    have hv := hs.reg.opnd (ds := a.defers) hc
    rw [e] at hv
    exact wpIn_cond_true (gvv_bool hv rfl) (h2 ro s a w hs)
  · obtain ⟨e', r', D', H', h1, h2⟩ := hy k r D H h
    refine ⟨e', r', D', H', h1, fun ro s a w hs => ?_⟩
    have hv := hs.reg.opnd (ds := a.defers) hc
    rw [e] at hv
    exact wpIn_cond_false (gvv_bool hv rfl) (h2 ro s a w hs)
theorem block_ok {id : Nat} {x : Code} (hx : CodeOK P cl n x) : CodeOK P cl n (.block id x) := fun k r D H h => by
  obtain ⟨e, r', D', H', h1, h2⟩ := hx (fun e => blkK e id k) r D H h
  have mk : ∀ e', k e' r' D' H' = true → (∀ (Q : Exit → Act → World → Prop) a w, Q (exE e') a w → Exit.inBlock id Q (exE e) a w) → ∃ e r' D' H', k e r' D' H' = true ∧ ∀ ro (s : Pl) (a : Act) (w : World), Sim P n ro s r D H a w → (Code.block id x).wpIn (fz ro) 0 P (Post P n ro s H w e r' D' H') a w :=
    fun e' h3 he => ⟨e', r', D', H', h3, fun ro s a w hs => wpIn_block (wpIn_mono (h2 ro s a w hs) fun x a' w' hp => by
      obtain ⟨rfl, hp⟩ := hp
      exact he _ _ _ ⟨rfl, hp⟩)⟩
  cases e with
  | normal => exact mk .normal h1 fun Q a w h => h
  | exit i =>
    have h1 : ifB (Nat.beq i id) (k .normal r' D' H') (k (.exit i) r' D' H') = true := h1
    rcases ifB_iff.1 h1 with ⟨e, h3⟩ | ⟨e, h3⟩
    · rw [Nat.beq_eq] at e
      refine mk .normal h3 fun Q a w h => ?_
      simp only [exE, Exit.inBlock]; rw [if_pos e]; exact h
    · refine mk (.exit i) h3 fun Q a w h => ?_
      simp only [exE, Exit.inBlock]; rw [if_neg (fun e' => by rw [e', Nat.beq_refl] at e; cases e)]; exact h
  | ret => exact mk .ret h1 fun Q a w h => h
theorem rounds_mono {F : Fence} {q : Nat} {c : Code} {Q Q' : Exit → Act → World → Prop} (h : ∀ e a w, Q e a w → Q' e a w) : ∀ (m : Nat) (a : Act) (w : World), Code.roundsIn F q P c Q m a w → Code.roundsIn F q P c Q' m a w
  | 0, _, _, hh => hh.elim
  | m + 1, a, w, hh => wpIn_mono (show c.wpIn F q P (Exit.then (Code.roundsIn F q P c Q m) Q) a w from hh) fun e a' w' hp => by
    cases e with
    | normal => exact rounds_mono h m a' w' hp
    | _ => exact h _ _ _ hp
theorem loop_ok {x : Code} (hx : CodeOK P cl n x) : CodeOK P cl n (.loop x) := fun k r D H h => by
  have h : iter 1048576 (exec P (cC P x) cl) k r D H = true := h
  suffices key : ∀ (m : Nat) r D H, iter m (exec P (cC P x) cl) k r D H = true → ∃ e r' D' H', k e r' D' H' = true ∧ ∀ ro (s' : Pl) (a' : Act) (w' : World), Sim P n ro s' r D H a' w' → Code.roundsIn (fz ro) 0 P x (Post P n ro s' H w' e r' D' H') m a' w' by
    obtain ⟨e, r', D', H', h1, h2⟩ := key _ r D H h
    exact ⟨e, r', D', H', h1, fun ro s a w hs => wpIn_loop_rounds 1048576 (h2 ro s a w hs)⟩
  intro m
  induction m with
  | zero => intro r D H h; exact ft h
  | succ m ih =>
    intro r D H h
    obtain ⟨e, r1, D1, H1, h1, h2⟩ := hx (fun e => loopK e (iter m (exec P (cC P x) cl) k) k) r D H h
    cases e with
    | normal =>
      obtain ⟨e, r', D', H', h3, h4⟩ := ih r1 D1 H1 h1
      refine ⟨e, r', D', H', h3, fun ro s a w hs => wpIn_mono (h2 ro s a w hs) fun x a2 w2 hp => ?_⟩
      obtain ⟨rfl, s2, e1, e2⟩ := hp
      exact rounds_mono (fun e a3 w3 hp => hp.trans e1) m a2 w2 (h4 ro s2 a2 w2 e2)
    | exit i =>
      refine ⟨.exit i, r1, D1, H1, h1, fun ro s a w hs => wpIn_mono (h2 ro s a w hs) fun x a2 w2 hp => ?_⟩
      obtain ⟨rfl, hp⟩ := hp
      exact ⟨rfl, hp⟩
    | ret =>
      refine ⟨.ret, r1, D1, H1, h1, fun ro s a w hs => wpIn_mono (h2 ro s a w hs) fun x a2 w2 hp => ?_⟩
      obtain ⟨rfl, hp⟩ := hp
      exact ⟨rfl, hp⟩
end
end Go.Xe
