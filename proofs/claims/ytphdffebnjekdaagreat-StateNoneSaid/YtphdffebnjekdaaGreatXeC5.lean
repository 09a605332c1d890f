/- Append. -/
import Derived.Test.YtphdffebnjekdaaGreatXeC4
namespace Go.Xe
open Go
section
variable {P : Program} {cl : CallT} {o : Oper} {d : Dst} {s : Pl} {ρ : Operand → Value} {r : Regs} {x : XO}
theorem growBy_le (n : Nat) : ∀ (k c : Nat), c ≤ n + (n + 768) / 4 → Builtin.growBy n k c ≤ n + (n + 768) / 4
  | 0, c, h => h
  | k + 1, c, h => by
    unfold Builtin.growBy
    by_cases hc : c ≥ n
    · rw [if_pos hc]; exact h
    · rw [if_neg hc]; exact growBy_le n k _ (by omega)
theorem nextcap_le {n c : Nat} (h : c < n) : Builtin.nextslicecap n c ≤ 2 * n + 192 := by
  unfold Builtin.nextslicecap
  split
  · omega
  · split
    · omega
    · have := growBy_le n 4 c (by omega)
      omega
theorem zeroCells_size (z : Array Value) (n : Nat) : (Builtin.zeroCells z n).size = n * z.size := by simp [Builtin.zeroCells]
def inPl (P : Program) (base : Option Addr) (k : Nat) (us : List Value) (v : Value) (w : World) : Result Next := match base with
  | some a => ((storeCells (a.add k) us).run P w).andThen fun _ w' => .ok (.value v) w'
  | none => .ok (.value v) w
/-- What an append comes to in a world: in place, or in a new block. -/
theorem run_append {c : Call} {t e : TypeId} {n m need len cap : Nat} {x y : Operand} {i : TypeInfo} {zv : Value} {base : Option Addr} {olds us : List Value} {w : World} (ho : o.op = .call c) (hc : c.callee = .builtin .append) (hl : c.args.toList = [x, y]) (ht : c.argTypes[0]? = some t)
    (hu : P.underlying t = some (.slice e)) (hn : sz P e = some n) (hi : P.info? e = some i) (hz : i.zero = some zv) (hb : i.bytes < 65536)
    (h1 : match c.argTypes[1]? with | some u => ∃ d, P.underlying u = some d ∧ (∀ k, d ≠ .int k) | none => True)
    (ex : ρ x = .slice base len cap) (hm : (Builtin.lenOf (ρ y)).run P w = .ok m w) (hneed : need = len + m) (hsmall : need < 1048576 ∨ need ≤ cap) :
    (need ≤ cap → (Builtin.firstCells n m (ρ y)).run P w = .ok us.toArray w →
      (execOp ρ o).run P w = inPl P base (len * n) us (.slice base need cap) w) ∧
    (cap < need → (Builtin.firstCells n len (ρ x)).run P w.drew = .ok olds.toArray w.drew → (Builtin.firstCells n m (ρ y)).run P w.drew = .ok us.toArray w.drew →
      ∃ nc rest, need ≤ nc ∧ rest.size = (nc - need) * zv.cells.size ∧ (execOp ρ o).run P w = .ok (.value (.slice (some ⟨w.heap.size, 0, none⟩) need nc)) (w.drew.alloc (.cells (olds.toArray ++ us.toArray ++ rest) e))) := by
  have er : (execOp ρ o).run P w = ((Builtin.append_ c.argTypes o.type #[ρ x, ρ y]).run P w).andThen fun v w' => .ok (.value v) w' := by
    rw [call_run ho hc hl]
    simp only [builtin, List.map_cons, List.map_nil, Sem.run_bind, Sem.run_pure]
  constructor
  · intro hle hf
    rw [er]
    cases hq : c.argTypes[1]? with
    | none =>
      simp [Builtin.append_, ht, hq, run_underlying hu, ex, run_sizeOf hn, hm, ← hneed, hle, hf]
      cases base with
      | none => simp [inPl]
      | some a => simp [inPl]; cases (storeCells (a.add (len * n)) us).run P w <;> simp
    | some u =>
      rw [hq] at h1
      obtain ⟨dd, a1, a2⟩ := h1
      simp [Builtin.append_, ht, hq, run_underlying hu, run_underlying a1, ex, run_sizeOf hn, hm, ← hneed, hle, hf]
      cases base with
      | none => simp [inPl]
      | some a => simp [inPl]; cases (storeCells (a.add (len * n)) us).run P w <;> simp
  · intro hlt hold hf
    have hle : ¬ need ≤ cap := by omega
    have hmax : IntKind.i64.max = 9223372036854775807 := rfl
    have hns : ¬ 2 ^ 48 < Builtin.nextslicecap need cap * i.bytes := by
      have h2 := nextcap_le hlt
      have : Builtin.nextslicecap need cap * i.bytes ≤ (2 * need + 192) * 65536 := Nat.mul_le_mul h2 (by omega)
      omega
    have hns' : ¬ 281474976710656 < Builtin.nextslicecap need cap * i.bytes := by omega
    rw [ex] at hold
    refine ⟨(Question.appendCap need cap e).cut (w.tape w.drawn (Question.appendCap need cap e)), Builtin.zeroCells zv.cells (((Question.appendCap need cap e).cut (w.tape w.drawn (Question.appendCap need cap e))) - need), ?_, zeroCells_size _ _, ?_⟩
    · simp only [Question.cut]; omega
    · rw [er]
      cases hq : c.argTypes[1]? with
      | none =>
        simp [Builtin.append_, ht, hq, run_underlying hu, ex, run_sizeOf hn, hm, ← hneed, hle, typeInfo, hi, hmax, hns', Question.forced, hold, hf, run_zeroValue hi hz, newRow]
        rw [if_neg (fun h => by omega)]
        simp [← Array.append_assoc]
      | some u =>
        rw [hq] at h1
        obtain ⟨dd, a1, a2⟩ := h1
        simp [Builtin.append_, ht, hq, run_underlying hu, run_underlying a1, ex, run_sizeOf hn, hm, ← hneed, hle, typeInfo, hi, hmax, hns', Question.forced, hold, hf, run_zeroValue hi hz, newRow]
        rw [if_neg (fun h => by omega)]
        simp [← Array.append_assoc]
/-- A new block of a slice that grows. -/
theorem grown_ev {H : Heap} {w : World} {e : TypeId} {n m nc : Nat} {c : List AV} {us : List Value} {rest : Array Value} (hR : Rel P s H w) (hc : gvs s c = some us) (hn : sz P e = some n) (hlen : us.length = m * n) (hm : m ≤ nc) (hr : rest.size = (nc - m) * n)
    {H' : Heap} (h1 : H'.nx.toNat = H.nx.toNat + 1) (h2 : ∀ j, hget H' j = if j = H.nx then some (.cells false e c) else hget H j) :
    ∃ s', gv s' (.slice H.nx 0 m (n + 1) 0) = some (.slice (some ⟨w.heap.size, 0, none⟩) m nc) ∧ s.le s' ∧ Ev P s H w s' H' (w.drew.alloc (.cells (us.toArray ++ rest) e)) := by
  have hle := upd_le (L := ⟨w.heap.size, 0, nc, n⟩) hR.fresh
  have hsz : (us.toArray ++ rest).size = nc * n := by
    rw [Array.size_append, List.size_toArray, hlen, hr, ← Nat.add_mul, Nat.add_sub_cancel' hm]
  refine ⟨_, ?_, hle, Ev.alloc (L := ⟨w.heap.size, 0, nc, n⟩) hR h1 h2 (o := .cells (us.toArray ++ rest) e) rfl rfl rfl rfl rfl ⟨_, (0, 0), rfl, fun j a e' => ?_, fun q _ h => by omega, fun h => ft h, by rw [hsz]; simp, fun _ => hn⟩⟩
  · simp only [gv, upd_self, Option.bind_some]
    rw [if_pos ⟨trivial, by simp, by simpa using hm⟩]
    rfl
  · obtain ⟨u, e1, e2⟩ := gvs_get hc e'
    refine ⟨u, gv_mono hle e2, ?_⟩
    have hj := (List.getElem?_eq_some_iff.1 e1).1
    rw [Nat.zero_add, Array.getElem?_append_left (by simpa using hj)]
    simpa using e1
theorem Rel.drew {H : Heap} {w : World} (h : Rel P s H w) : Rel P s H w.drew := ⟨h.blk, h.inj, h.nx⟩
theorem Ev.drew {s' : Pl} {H H' : Heap} {w w' : World} (h : Ev P s H w.drew s' H' w') : Ev P s H w s' H' w' := ⟨h.mono, ⟨h.fr.os, h.fr.tape, h.fr.output, h.fr.size, h.fr.block⟩, h.im, h.rel, h.nx⟩
theorem app_full {c : Call} {t e : TypeId} {n : Nat} {x y : Operand} {z : List AV} (ho : o.op = .call c) (hc : c.callee = .builtin .append) (hl : c.args.toList = [x, y]) (ht : c.argTypes[0]? = some t) (hu : P.underlying t = some (.slice e)) (hn : sz P e = some n)
    (hb : smallB P e = true) (hz : zeroC P e = some z) (hzn : z.length = n) (h1 : match c.argTypes[1]? with | some u => ∃ d, P.underlying u = some d ∧ (∀ k, d ≠ .int k) | none => True) :
    Full P cl o d (.app e n d (cO x) (cO y)) := fun ih r D H h => by
  have h : lenS (ov (cO y) r) (fun m => firstA (ov (cO y) r) n m H (fun c => allCell c (appA (ov (cO x) r) (ov (cO x) r) e n m c H (fun v H => ih (put d v r) D H)))) = true := h
  obtain ⟨m, h, hm⟩ := lenS_sound (P := P) h
  obtain ⟨cells, h, hf⟩ := firstA_sound (P := P) h
  obtain ⟨hone, h⟩ := allCell_iff.1 h
  obtain ⟨iz, zv, hz1, hz2, rfl⟩ := zeroC_spec hz
  have hzs : zv.cells.size = n := by simpa using hzn
  have hby : iz.bytes < 65536 := by unfold smallB at hb; rw [hz1] at hb; rwa [Nat.blt_eq] at hb
  have args : ∀ {s : Pl} {ρ : Operand → Value}, OpR s r ρ o → gv s (ov (cO x) r) = some (ρ x) ∧ gv s (ov (cO y) r) = some (ρ y) := fun hO => ⟨call_args ho hc hl hO x (by simp), call_args ho hc hl hO y (by simp)⟩
  have nodefer : ∀ c, o.op ≠ .defer c := fun c => by rw [ho]; simp
  cases hx : ov (cO x) r with
  | nils =>
    rw [hx] at h
    rcases ifB_iff.1 (show ifB (Nat.beq m 0) (ih (put d .nils r) D H) (chk (Nat.blt m 1048576) (alloc H (.cells false e cells) (fun j H => ih (put d (.slice j 0 m (Nat.succ n) 0) r) D H))) = true from h) with ⟨h0, h⟩ | ⟨h0, h⟩
    · rw [Nat.beq_eq] at h0
      refine ⟨_, D, H, h, fun ro s w ac Q hR hO hD => ?_⟩
      obtain ⟨gx, gy⟩ := args hO
      have ex := gvv_nils gx hx
      obtain ⟨us, f1, f2, f3⟩ := hf s w _ hR gy
      obtain ⟨r1, _⟩ := run_append (olds := []) (us := us) ho hc hl ht hu hn hz1 hz2 hby h1 ex (hm s _ gy w) rfl (.inl (by omega))
      refine wpIn_run nodefer (w' := w) (u := .slice none 0 0) ?_ ⟨_, s, ac.defers, rfl, rfl, .refl hR, hD⟩
      rw [r1 (by omega) f2, h0]
      rfl
    · obtain ⟨h2, h⟩ := chk_iff.1 h
      rw [Nat.blt_eq] at h2
      have hm0 : m ≠ 0 := fun e => by rw [e, Nat.beq_refl] at h0; cases h0
      obtain ⟨H', h3, h4, h5⟩ := alloc_iff h
      refine ⟨_, D, H', h5, fun ro s w ac Q hR hO hD => ?_⟩
      obtain ⟨gx, gy⟩ := args hO
      have ex := gvv_nils gx hx
      obtain ⟨us, f1, f2, f3⟩ := hf s w.drew _ hR.drew gy
      obtain ⟨_, r2⟩ := run_append (olds := []) (us := us) ho hc hl ht hu hn hz1 hz2 hby h1 ex (hm s _ gy w) rfl (.inl (by omega))
      obtain ⟨nc, rest, g1, g2, g3⟩ := r2 (by omega) (by rw [ex]; rfl) f2
      rw [Nat.zero_add] at g1 g2 g3
      rw [hzs] at g2
      obtain ⟨s', a1, a2, a3⟩ := grown_ev hR f1 hn f3 g1 g2 h3 h4
      refine wpIn_run nodefer ?_ ⟨_, s', ac.defers, rfl, a1, a3, hD.mono a2⟩
      rw [g3]; simp
  | slice i off len q cap =>
    rw [hx] at h
    have h : ifB (Nat.beq q 0) (ifB (Nat.ble (Nat.add len m) cap) (ifB (Nat.beq m 0) (ih (put d (.slice i off len q cap) r) D H) (atCells i H (fun ex e l => over (Nat.add off (Nat.mul len n)) l cells (fun l => forceN (Nat.add len m) (fun k => ih (put d (.slice i off k 0 cap) r) D (hset H i (some (.cells ex e l))))))))
        (firstA (.slice i off len q cap) n len H (fun old => forceN (Nat.add len m) (fun k => chk (Nat.blt k 1048576) (alloc H (.cells false e (app old cells)) (fun j H => ih (put d (.slice j 0 k (Nat.succ n) 0) r) D H))))))
      (ifB (Nat.beq m 0) (ih (put d (.slice i off len q cap) r) D H) (atCells i H (fun _ e' l => chk (andF (Nat.beq e' e) (Nat.beq q (Nat.succ n))) (cut off l (fun _ p => cut (Nat.mul len n) p (fun old _ => forceN (Nat.add len m) (fun k => chk (Nat.blt k 1048576) (alloc (hset H i none) (.cells false e (app old cells)) (fun j H => ih (put d (.slice j 0 k (Nat.succ n) 0) r) D H))))))))) = true := h
    rcases ifB_iff.1 h with ⟨hq, h⟩ | ⟨hq, h⟩
    · rw [Nat.beq_eq] at hq
      rcases ifB_iff.1 h with ⟨hle, h⟩ | ⟨hle, h⟩
      · have hle := Nat.le_of_ble_eq_true hle
        have hle : len + m ≤ cap := hle
        rcases ifB_iff.1 h with ⟨h0, h⟩ | ⟨h0, h⟩
        · rw [Nat.beq_eq] at h0
          refine ⟨_, D, H, h, fun ro s w ac Q hR hO hD => ?_⟩
          obtain ⟨gx, gy⟩ := args hO
          rw [hx] at gx
          obtain ⟨L, c', hL, ex, hc'⟩ := gvv_slice gx rfl
          obtain ⟨_, rfl⟩ := hc'.resolve_right (fun e' => by omega)
          obtain ⟨us, f1, f2, f3⟩ := hf s w _ hR gy
          obtain ⟨r1, _⟩ := run_append (olds := []) (us := us) ho hc hl ht hu hn hz1 hz2 hby h1 ex (hm s _ gy w) rfl (.inr hle)
          refine wpIn_run nodefer (w' := w) (u := ac.eval x) ?_ ⟨_, s, ac.defers, rfl, gx, .refl hR, hD⟩
          have hus : us = [] := List.length_eq_zero_iff.1 (by rw [f3, h0]; simp)
          rw [r1 hle f2, hus, h0, ex]
          simp [inPl, storeCells]
        · obtain ⟨ex', e', l, h2, h⟩ := atCells_iff.1 h
          obtain ⟨h3, h⟩ := over_iff.1 h
          rw [forceN_eq] at h
          have h3 : off + len * n + cells.length ≤ l.length := h3
          refine ⟨_, D, _, h, fun ro s w ac Q hR hO hD => ?_⟩
          obtain ⟨gx, gy⟩ := args hO
          rw [hx] at gx
          obtain ⟨L, c', hL, ex, hc'⟩ := gvv_slice gx rfl
          obtain ⟨_, rfl⟩ := hc'.resolve_right (fun e' => by omega)
          obtain ⟨us, f1, f2, f3⟩ := hf s w _ hR gy
          obtain ⟨r1, _⟩ := run_append (olds := []) (us := us) ho hc hl ht hu hn hz1 hz2 hby h1 ex (hm s _ gy w) rfl (.inr hle)
          obtain ⟨w', g1, g2⟩ := store_ev (off := off + len * n) hR h2 hL f1 h3 (ones f1 hone)
          refine wpIn_run nodefer (w' := w') (u := .slice (some ⟨L.b, L.base + off, none⟩) (len + m) c') ?_ ⟨_, s, ac.defers, rfl, by simp only [gv, hL, Option.map_some]; rfl, g2, hD⟩
          rw [r1 hle f2]
          simp only [inPl, addr_add, Nat.add_assoc] at g1 ⊢
          rw [g1]; rfl
      · have hle : ¬ len + m ≤ cap := fun e => by rw [← Nat.ble_eq] at e; rw [show Nat.ble (Nat.add len m) cap = true from e] at hle; cases hle
        obtain ⟨old, h, hfo⟩ := firstA_sound (P := P) h
        rw [forceN_eq, app_eq] at h
        obtain ⟨h2, h⟩ := chk_iff.1 h
        rw [Nat.blt_eq] at h2
        have h2 : len + m < 1048576 := h2
        obtain ⟨H', h3, h4, h5⟩ := alloc_iff h
        refine ⟨_, D, H', h5, fun ro s w ac Q hR hO hD => ?_⟩
        obtain ⟨gx, gy⟩ := args hO
        rw [hx] at gx
        obtain ⟨L, c', hL, ex, hc'⟩ := gvv_slice gx rfl
        obtain ⟨_, rfl⟩ := hc'.resolve_right (fun e' => by omega)
        obtain ⟨us, f1, f2, f3⟩ := hf s w.drew _ hR.drew gy
        obtain ⟨olds, o1, o2, o3⟩ := hfo s w.drew _ hR.drew gx
        obtain ⟨_, r2⟩ := run_append (olds := olds) (us := us) ho hc hl ht hu hn hz1 hz2 hby h1 ex (hm s _ gy w) rfl (.inl h2)
        obtain ⟨nc, rest, g1, g2, g3⟩ := r2 (by omega) o2 f2
        rw [hzs] at g2
        obtain ⟨s', a1, a2, a3⟩ := grown_ev hR (gvs_append o1 f1) hn (by rw [List.length_append, o3, f3, Nat.add_mul]) g1 g2 h3 h4
        refine wpIn_run nodefer ?_ ⟨_, s', ac.defers, rfl, a1, a3, hD.mono a2⟩
        rw [g3]; simp
    · have hq0 : q ≠ 0 := fun e => by rw [e, Nat.beq_refl] at hq; cases hq
      rcases ifB_iff.1 h with ⟨h0, h⟩ | ⟨h0, h⟩
      · rw [Nat.beq_eq] at h0
        refine ⟨_, D, H, h, fun ro s w ac Q hR hO hD => ?_⟩
        obtain ⟨gx, gy⟩ := args hO
        rw [hx] at gx
        obtain ⟨L, c', hL, ex, hc'⟩ := gvv_slice gx rfl
        obtain ⟨_, _, b3, b4⟩ := hc'.resolve_left (fun e' => hq0 e'.1)
        obtain ⟨us, f1, f2, f3⟩ := hf s w _ hR gy
        obtain ⟨r1, _⟩ := run_append (olds := []) (us := us) ho hc hl ht hu hn hz1 hz2 hby h1 ex (hm s _ gy w) rfl (.inr (by omega))
        refine wpIn_run nodefer (w' := w) (u := ac.eval x) ?_ ⟨_, s, ac.defers, rfl, gx, .refl hR, hD⟩
        have hus : us = [] := List.length_eq_zero_iff.1 (by rw [f3, h0]; simp)
        rw [r1 (by omega) f2, hus, h0, ex]
        simp [inPl, storeCells]
      · obtain ⟨ex', e', l, h2, h⟩ := atCells_iff.1 h
        obtain ⟨h3, h⟩ := chk_iff.1 h
        rw [andF_iff, Nat.beq_eq, Nat.beq_eq] at h3
        obtain ⟨h4, h⟩ := cut_iff.1 h
        obtain ⟨h5, h⟩ := cut_iff.1 h
        rw [List.length_drop] at h5
        have h5 : len * n ≤ l.length - off := h5
        rw [forceN_eq, app_eq] at h
        obtain ⟨h6, h⟩ := chk_iff.1 h
        rw [Nat.blt_eq] at h6
        have h6 : len + m < 1048576 := h6
        obtain ⟨H', h7, h8, h9⟩ := alloc_iff h
        rw [nx_hset] at h7 h8 h9
        refine ⟨_, D, H', h9, fun ro s w ac Q hR hO hD => ?_⟩
        obtain ⟨gx, gy⟩ := args hO
        rw [hx] at gx
        obtain ⟨L, c', hL, ex, hc'⟩ := gvv_slice gx rfl
        obtain ⟨b1, b2, b3, b4⟩ := hc'.resolve_left (fun e' => hq0 e'.1)
        have hes : L.es = n := by have := h3.2; omega
        by_cases hin : len + m ≤ c'
        · -- in place
          obtain ⟨us, f1, f2, f3⟩ := hf s w _ hR gy
          obtain ⟨r1, _⟩ := run_append (olds := []) (us := us) ho hc hl ht hu hn hz1 hz2 hby h1 ex (hm s _ gy w) rfl (.inl h6)
          obtain ⟨cs, f, k1, k2, k3, k4, k5, k6⟩ := hR.at h2 hL
          obtain ⟨olds, cs2, f2', o1, o2, o3, o4⟩ := rel_cells (hR.at h2 hL) off (len * n) (by omega)
          rw [k1] at o3; cases o3
          have hroom : L.base + off + len * n + us.length ≤ cs.size := by
            rw [f3, b2, hes]
            have : (cap + (len + m)) * n ≤ L.cap * n := Nat.mul_le_mul_right n (by omega)
            rw [hes] at k5
            rw [Nat.add_mul, Nat.add_mul] at this
            omega
          obtain ⟨w', cs', g1, g2, g3, g4, g5⟩ := run_storeCells (P := P) (L.base + off + len * n) us 0 w cs k1 (by omega) k3 (ones f1 hone)
          have hle := upd_le (L := ⟨L.b, L.base + off, L.cap - cap, n⟩) hR.fresh
          have hall := gvs_append o1 f1
          have hev : Ev P s H w (upd s H.nx ⟨L.b, L.base + off, L.cap - cap, n⟩) H' w' := by
            refine Ev.renew (M := ⟨L.b, L.base + off, L.cap - cap, n⟩) hR h2 hL h7 h8 rfl g5 ?_
            rw [g2, h3.1]
            refine ⟨cs', f, rfl, fun j a ha => ?_, fun p hp => k3 p (by omega), fun e0 => ft e0, ?_, fun _ => hn⟩
            · obtain ⟨u, c1, c2⟩ := gvs_get hall ha
              refine ⟨u, gv_mono hle c2, ?_⟩
              show cs'[L.base + off + j]? = some u
              rw [g4]
              by_cases hj : j < len * n
              · rw [if_neg (by omega)]
                rw [List.getElem?_append_left (by omega)] at c1
                exact o4 j u c1
              · have hjl : j < olds.length + us.length := by have := (List.getElem?_eq_some_iff.1 c1).1; rwa [List.length_append] at this
                rw [if_pos (by omega)]
                rw [List.getElem?_append_right (by omega), o2] at c1
                rw [show L.base + off + j - (L.base + off + len * n + 0) = j - len * n by omega]
                exact c1
            · show L.base + off + (L.cap - cap) * n ≤ cs'.size
              rw [g3]
              have h10 : cap * n + (L.cap - cap) * n = L.cap * n := by rw [← Nat.add_mul, Nat.add_sub_cancel' (by omega)]
              rw [hes] at k5
              rw [b2, hes]; omega
          refine wpIn_run nodefer (w' := w') (u := .slice (some ⟨L.b, L.base + off, none⟩) (len + m) c') ?_ ⟨_, _, ac.defers, rfl, ?_, hev, hD.mono hle⟩
          · rw [r1 hin f2]
            simp only [inPl, addr_add, g1, Result.andThen_ok]
          · simp only [gv, upd_self, Option.bind_some]
            rw [if_pos ⟨trivial, by show (0 : Nat) = 0 * n; simp, by show 0 + (len + m) ≤ L.cap - cap; omega⟩]
            rw [b4]; rfl
        · obtain ⟨us, f1, f2, f3⟩ := hf s w.drew _ hR.drew gy
          obtain ⟨olds, cs2, f2', o1, o2, o3, o4⟩ := rel_cells (hR.at h2 hL) off (len * n) (by omega)
          obtain ⟨_, r2⟩ := run_append (olds := olds) (us := us) ho hc hl ht hu hn hz1 hz2 hby h1 ex (hm s _ gy w) rfl (.inl h6)
          have hold : (Builtin.firstCells n len (ac.eval x)).run P w.drew = .ok olds.toArray w.drew := by
            rw [ex]
            have := run_loadCells_at (P := P) (w := w.drew) o3 o4
            rw [o2] at this
            exact this
          obtain ⟨nc, rest, g1, g2, g3⟩ := r2 (by omega) hold f2
          rw [hzs] at g2
          have hdr := Ev.drop hR i
          obtain ⟨s', a1, a2, a3⟩ := grown_ev (H' := H') (hR.drop i) (gvs_append o1 f1) hn (by rw [List.length_append, o2, f3, Nat.add_mul]) g1 g2 (by rw [nx_hset]; exact h7) (by rw [nx_hset]; exact h8)
          rw [nx_hset] at a1
          refine wpIn_run nodefer ?_ ⟨_, s', ac.defers, rfl, a1, hdr.trans a3, hD.mono a2⟩
          rw [g3]; simp
  | _ => rw [hx] at h; exact ft h
end
end Go.Xe
