/- Append, copy, clear; bytes that become a string. -/
import Derived.Test.YtphdffebnjekdaaGreatXeC3
namespace Go.Xe
open Go
section
variable {P : Program} {cl : CallT} {o : Oper} {d : Dst} {s : Pl} {ρ : Operand → Value} {r : Regs} {x : XO}
theorem lenS_sound {a : AV} {k : Nat → Bool} (h : lenS a k = true) : ∃ n, k n = true ∧ ∀ (s : Pl) v, gv s a = some v → ∀ w, (Builtin.lenOf v).run P w = .ok n w := by
  cases a with
  | slice i off len q cap => exact ⟨len, h, fun s v hv w => by obtain ⟨_, _, _, rfl, _⟩ := gvv_slice hv rfl; rfl⟩
  | nils => exact ⟨0, h, fun s v hv w => by rw [gvv_nils hv rfl]; rfl⟩
  | str t =>
    have h : forceN (lenF t) k = true := h
    rw [forceN_eq, lenF_eq] at h
    exact ⟨t.length, h, fun s v hv w => by obtain ⟨_, rfl⟩ := gvv_str hv rfl; show Result.ok (ByteArray.size _) w = _; rw [strB_size]⟩
  | _ => exact ft h
theorem byteV_cells {t : List Nat} {n : Nat} (ht : t.all (Nat.blt · 256) = true) : (((ByteArray.mk (t.map UInt8.ofNat).toArray).extract 0 n).data.map fun b => Value.int .u8 b.toNat) = ((t.take n).map fun m => Value.int .u8 (Int.ofNat m)).toArray := by
  rw [strB_extract, List.drop_zero]
  apply Array.toList_inj.1
  simp only [Array.toList_map, List.map_map]
  apply List.map_congr_left
  intro m hm
  have : m < 256 := by have := List.all_eq_true.1 (all_take ht) m hm; rwa [Nat.blt_eq] at this
  simp [UInt8.toNat_ofNat', Nat.mod_eq_of_lt this]
/-- The first cells of what is appended, or copied. -/
theorem firstA_sound {a : AV} {m n : Nat} {H : Heap} {k : List AV → Bool} (h : firstA a m n H k = true) : ∃ c, k c = true ∧ ∀ (s : Pl) (w : World) v, Rel P s H w → gv s a = some v →
    ∃ us, gvs s c = some us ∧ (Builtin.firstCells m n v).run P w = .ok us.toArray w ∧ us.length = n * m := by
  cases a with
  | slice i off len q cap =>
    obtain ⟨ex, e, l, h2, h⟩ := atCells_iff.1 (show atCells i H (fun _ _ l => cut off l (fun _ q => cut (Nat.mul n m) q (fun c _ => k c))) = true from h)
    obtain ⟨h3, h⟩ := cut_iff.1 h
    obtain ⟨h4, h⟩ := cut_iff.1 h
    rw [List.length_drop] at h4
    refine ⟨_, h, fun s w v hR hv => ?_⟩
    obtain ⟨L, c, hL, rfl, _⟩ := gvv_slice hv rfl
    have h4 : n * m ≤ l.length - off := h4
    obtain ⟨vs, cs, f, e1, e2, e3, e4⟩ := rel_cells (hR.at h2 hL) off (n * m) (by omega)
    have hl := run_loadCells_at (P := P) e3 e4
    rw [e2] at hl
    exact ⟨vs, e1, hl, e2⟩
  | nils =>
    obtain ⟨h1, h⟩ := chk_iff.1 (show chk (Nat.beq n 0) (k []) = true from h)
    rw [Nat.beq_eq] at h1
    refine ⟨[], h, fun s w v hR hv => ?_⟩
    rw [gvv_nils hv rfl]
    exact ⟨[], rfl, rfl, by rw [h1]; simp⟩
  | str t =>
    obtain ⟨h0, h⟩ := chk_iff.1 (show chk (Nat.beq m 1) (cut n t (fun p _ => k (mapF byteV p))) = true from h)
    rw [Nat.beq_eq] at h0
    obtain ⟨h1, h⟩ := cut_iff.1 h
    rw [mapF_eq] at h
    refine ⟨_, h, fun s w v hR hv => ?_⟩
    obtain ⟨ht, rfl⟩ := gvv_str hv rfl
    refine ⟨(t.take n).map fun m => Value.int .u8 (Int.ofNat m), gvs_map (fun a _ => rfl), ?_, by rw [List.length_map, List.length_take, h0]; omega⟩
    simp only [Builtin.firstCells, strV, Sem.run_pure, byteV_cells ht]
  | _ => exact ft h
theorem ones {c : List AV} {us : List Value} (h : gvs s c = some us) (hc : ∀ a ∈ c, cell a = true) : ∀ v ∈ us, v.oneCell' = true := fun v hv => by
  obtain ⟨j, hj⟩ := List.mem_iff_getElem?.1 hv
  obtain ⟨a, e1, e2⟩ := gvs_get' h hj
  exact cell_one e2 (hc a (List.mem_of_getElem? e1))
theorem copy_full {c : Call} {t e : TypeId} {n : Nat} {x y : Operand} (ho : o.op = .call c) (hc : c.callee = .builtin .copy) (hl : c.args.toList = [x, y]) (ht : c.argTypes[0]? = some t) (hu : P.underlying t = some (.slice e)) (hn : sz P e = some n) :
    Full P cl o d (.copy n d (cO x) (cO y)) := fun ih r D H h => by
  have h : copyA (ov (cO x) r) n (ov (cO y) r) H (fun m H => ih (put d (.int .i64 (Int.ofNat m)) r) D H) = true := h
  have args : ∀ {s : Pl} {ρ : Operand → Value}, OpR s r ρ o → gv s (ov (cO x) r) = some (ρ x) ∧ gv s (ov (cO y) r) = some (ρ y) := fun hO => ⟨call_args ho hc hl hO x (by simp), call_args ho hc hl hO y (by simp)⟩
  have run : ∀ (ρ : Operand → Value) (w : World) (base : Option Addr) (len cap m k : Nat) (us : List Value), ρ x = .slice base len cap → (Builtin.lenOf (ρ y)).run P w = .ok m w → Nat.min m len = k → (Builtin.firstCells n k (ρ y)).run P w = .ok us.toArray w →
      (execOp ρ o).run P w = (match base with | some a => ((storeCells a us).run P w).andThen fun _ w' => .ok (.value (goInt k)) w' | none => .ok (.value (goInt k)) w) := fun ρ w base len cap m k us e1 e2 e3 e4 => by
    rw [call_run ho hc hl]
    simp only [builtin, Builtin.copy_, List.map_cons, List.map_nil, Sem.run_bind, ht]
    simp [run_underlying hu, e1, e2, e3, run_sizeOf hn, e4]
    cases base with
    | none => simp
    | some a => simp; cases (storeCells a us).run P w <;> simp
  cases hx : ov (cO x) r with
  | nils =>
    rw [hx] at h
    obtain ⟨m, h, hm⟩ := lenS_sound (P := P) (show lenS (ov (cO y) r) (fun _ => ih (put d (.int .i64 (Int.ofNat 0)) r) D H) = true from h)
    refine ⟨_, D, H, h, fun ro s w ac Q hR hO hD => ?_⟩
    obtain ⟨gx, gy⟩ := args hO
    have ex := gvv_nils gx hx
    have hf : (Builtin.firstCells n 0 (ac.eval y)).run P w = .ok ([] : List Value).toArray w := by
      have hm := hm s _ gy w
      revert hm
      cases ac.eval y with
      | slice a len cap => intro _; cases a <;> simp [Builtin.firstCells, loadCells, loadCellsFrom]
      | string t => intro _; simp [Builtin.firstCells]
      | _ => intro hm; simp [Builtin.lenOf] at hm
    refine wpIn_run (fun c => by rw [ho]; simp) (w' := w) (u := goInt 0) ?_ ⟨_, s, ac.defers, rfl, rfl, .refl hR, hD⟩
    rw [run ac.eval w none 0 0 m 0 [] ex (hm s _ gy w) (Nat.min_zero m) hf]
    rfl
  | slice i off len q cap =>
    rw [hx] at h
    obtain ⟨m, h, hm⟩ := lenS_sound (P := P) (show lenS (ov (cO y) r) (fun m => forceN (@Bool.rec (fun _ => Nat) len m (Nat.ble m len)) (fun m => ifB (Nat.beq m 0) (ih (put d (.int .i64 (Int.ofNat 0)) r) D H) (firstA (ov (cO y) r) n m H (fun c => allCell c (atCells i H (fun ex e l => over off l c (fun l => ih (put d (.int .i64 (Int.ofNat m)) r) D (hset H i (some (.cells ex e l)))))))))) = true from h)
    rw [forceN_eq, boolRecN] at h
    have hmin : (if Nat.ble m len = true then m else len) = Nat.min m len := by
      by_cases hle : m ≤ len
      · rw [if_pos (by rw [Nat.ble_eq]; exact hle)]; exact (Nat.min_eq_left hle).symm
      · rw [if_neg (fun h => hle (by rwa [Nat.ble_eq] at h))]; exact (Nat.min_eq_right (by omega)).symm
    rw [hmin] at h
    rcases ifB_iff.1 h with ⟨h0, h⟩ | ⟨h0, h⟩
    · rw [Nat.beq_eq] at h0
      refine ⟨_, D, H, h, fun ro s w ac Q hR hO hD => ?_⟩
      obtain ⟨gx, gy⟩ := args hO
      obtain ⟨L, c', hL, ex, _⟩ := gvv_slice gx hx
      have hf : (Builtin.firstCells n 0 (ac.eval y)).run P w = .ok ([] : List Value).toArray w := by
        have hm := hm s _ gy w
        revert hm
        cases ac.eval y with
        | slice a len cap => intro _; cases a <;> simp [Builtin.firstCells, loadCells, loadCellsFrom]
        | string t => intro _; simp [Builtin.firstCells]
        | _ => intro hm; simp [Builtin.lenOf] at hm
      refine wpIn_run (fun c => by rw [ho]; simp) (w' := w) (u := goInt 0) ?_ ⟨_, s, ac.defers, rfl, rfl, .refl hR, hD⟩
      rw [run ac.eval w _ len c' m 0 [] ex (hm s _ gy w) h0 hf]
      simp [storeCells]
    · obtain ⟨c₁, h, hf⟩ := firstA_sound (P := P) h
      obtain ⟨h1, h⟩ := allCell_iff.1 h
      obtain ⟨ex', e', l, h2, h⟩ := atCells_iff.1 h
      obtain ⟨h3, h⟩ := over_iff.1 h
      refine ⟨_, D, _, h, fun ro s w ac Q hR hO hD => ?_⟩
      obtain ⟨gx, gy⟩ := args hO
      obtain ⟨L, c', hL, ex, _⟩ := gvv_slice gx hx
      obtain ⟨us, f1, f2, _⟩ := hf s w _ hR gy
      obtain ⟨w', g1, g2⟩ := store_ev (off := off) hR h2 hL f1 h3 (ones f1 h1)
      refine wpIn_run (fun c => by rw [ho]; simp) (w' := w') (u := goInt (Nat.min m len)) ?_ ⟨_, s, ac.defers, rfl, rfl, g2, hD⟩
      rw [run ac.eval w _ len c' m _ us ex (hm s _ gy w) rfl f2]
      simp [g1]
  | _ => rw [hx] at h; exact ft h
theorem clrs_full {c : Call} {t e : TypeId} {z : List AV} {n : Nat} {x : Operand} (ho : o.op = .call c) (hc : c.callee = .builtin .clear) (hl : c.args.toList = [x]) (ht : c.argTypes[0]? = some t) (hu : P.underlying t = some (.slice e)) (hz : zeroC P e = some z) (hzn : z.length = n) :
    Full P cl o d (.clrs z d (cO x)) := fun ih r D H h => by
  have h : clrA (ov (cO x) r) z H (fun H => ih (put d (AV.tuple []) r) D H) = true := h
  have er : ∀ (ρ : Operand → Value) (w : World), (execOp ρ o).run P w = ((Builtin.clear_ c.argTypes o.type #[ρ x]).run P w).andThen fun v w' => .ok (.value v) w' := fun ρ w => by
    rw [call_run ho hc hl]
    simp only [builtin, List.map_cons, List.map_nil, Sem.run_bind, Sem.run_pure]
  obtain ⟨iz, zv, hz1, hz2, rfl⟩ := zeroC_spec hz
  cases hx : ov (cO x) r with
  | nils =>
    rw [hx] at h
    refine ⟨_, D, H, h, fun ro s w ac Q hR hO hD => ?_⟩
    have ex := gvv_nils (call_args ho hc hl hO x (by simp)) hx
    refine wpIn_run (fun c => by rw [ho]; simp) (w' := w) (u := .tuple #[]) ?_ ⟨_, s, ac.defers, rfl, rfl, .refl hR, hD⟩
    rw [er, ex]
    simp [Builtin.clear_, ht, run_underlying hu]
  | slice i off len q cap =>
    rw [hx] at h
    rcases ifB_iff.1 (show ifB (Nat.beq len 0) (ih (put d (AV.tuple []) r) D H) (allCell (zv.cells.toList.map ofV0) (atCells i H (fun ex e l => over off l (reps len (zv.cells.toList.map ofV0)) (fun l => ih (put d (AV.tuple []) r) D (hset H i (some (.cells ex e l))))))) = true from h) with ⟨h0, h⟩ | ⟨h0, h⟩
    · rw [Nat.beq_eq] at h0
      refine ⟨_, D, H, h, fun ro s w ac Q hR hO hD => ?_⟩
      obtain ⟨L, c', hL, ex, _⟩ := gvv_slice (call_args ho hc hl hO x (by simp)) hx
      refine wpIn_run (fun c => by rw [ho]; simp) (w' := w) (u := .tuple #[]) ?_ ⟨_, s, ac.defers, rfl, rfl, .refl hR, hD⟩
      rw [er, ex, h0]
      simp [Builtin.clear_, ht, run_underlying hu]
    · obtain ⟨h1, h⟩ := allCell_iff.1 h
      obtain ⟨ex', e', l, h2, h⟩ := atCells_iff.1 h
      obtain ⟨h3, h⟩ := over_iff.1 h
      refine ⟨_, D, _, h, fun ro s w ac Q hR hO hD => ?_⟩
      obtain ⟨L, c', hL, ex, _⟩ := gvv_slice (call_args ho hc hl hO x (by simp)) hx
      have hr := gvs_reps (s := s) (gvs_zero (s := s) zv) len
      have hone : ∀ v ∈ reps len zv.cells.toList, v.oneCell' = true := by
        have hz1 := ones (gvs_zero (s := s) zv) h1
        have : ∀ n, ∀ v ∈ reps n zv.cells.toList, v ∈ zv.cells.toList := by
          intro n
          induction n with
          | zero => intro v hv; cases hv
          | succ n ih =>
            intro v hv
            have hv : v ∈ app zv.cells.toList (reps n zv.cells.toList) := hv
            rw [app_eq, List.mem_append] at hv
            exact hv.elim id (ih v)
        exact fun v hv => hz1 v (this len v hv)
      obtain ⟨w', g1, g2⟩ := store_ev (off := off) hR h2 hL hr h3 hone
      refine wpIn_run (fun c => by rw [ho]; simp) (w' := w') (u := .tuple #[]) ?_ ⟨_, s, ac.defers, rfl, rfl, g2, hD⟩
      have hm : zv.cells.toList.length = n := by simpa using hzn
      have hlen : len ≠ 0 := fun e => by rw [e, Nat.beq_refl] at h0; cases h0
      have hzc : (Builtin.zeroCells zv.cells len).toList = reps len zv.cells.toList := by
        unfold Builtin.zeroCells
        by_cases hn0 : len * n = 0
        · have h5 : zv.cells.size = 0 := by
            rw [← Array.length_toList, hm]
            rcases Nat.mul_eq_zero.1 hn0 with h | h
            · exact absurd h hlen
            · exact h
          have e0 : reps len zv.cells.toList = [] := List.length_eq_zero_iff.1 (by rw [reps_length, hm]; exact hn0)
          rw [e0, h5]; simp
        · have := cells_reps (v := zv) (n := len) hm hn0
          rw [← Array.length_toList, hm] at *
          rw [this]
      rw [er, ex]
      obtain ⟨m, rfl⟩ : ∃ m, len = m + 1 := ⟨len - 1, by omega⟩
      simp [Builtin.clear_, ht, run_underlying hu, run_zeroValue hz1 hz2, hzc, g1]
  | _ => rw [hx] at h; exact ft h
theorem ustr_full {c : Call} {t u : TypeId} {x n : Operand} (ho : o.op = .call c) (hc : c.callee = .builtin .unsafeString) (hl : c.args.toList = [x, n]) (ht : c.argTypes[0]? = some t) (hu : P.underlying t = some (.pointer u)) : Full P cl o d (.ustr u d (cO x) (cO n)) := fun ih r D H h => by
  have h : onInt (ov (cO n) r) (fun _ n => onNat n (fun n => onPtr (ov (cO x) r) (fun i off => atCells i H (fun _ e l => chk (andF (andF (notF (Nat.beq n 0)) (Nat.blt n 4611686018427387904)) (andF (Nat.beq (P.cellsOf e) 1) (sameLayout P P.depth e u))) (cut off l (fun _ q => cut n q (fun c _ => bytes c (fun s => ih (put d (.str s) r) D (hset H i none))))))))) = true := h
  obtain ⟨j, m', h0, k1⟩ := onInt_iff.1 h
  obtain ⟨m, hm, k2⟩ := onNat_iff.1 k1
  rw [hm] at h0
  obtain ⟨i, off, h1, k3⟩ := onPtr_iff.1 k2
  obtain ⟨ex', e', l, h2, k4⟩ := atCells_iff.1 k3
  obtain ⟨h3, k5⟩ := chk_iff.1 k4
  rw [andF_iff, andF_iff, andF_iff, notF_eq, Bool.not_eq_true', Nat.blt_eq, Nat.beq_eq] at h3
  obtain ⟨⟨h31, h32⟩, h33, h34⟩ := h3
  have hm0 : m ≠ 0 := fun e => by rw [e, Nat.beq_refl] at h31; cases h31
  obtain ⟨h4, k6⟩ := cut_iff.1 k5
  obtain ⟨h5, k7⟩ := cut_iff.1 k6
  rw [List.length_drop] at h5
  obtain ⟨b, h6, h7, k8⟩ := bytes_iff.1 k7
  refine ⟨_, D, _, k8, fun ro s w ac Q hR hO hD => ?_⟩
  obtain ⟨L, hL, exx⟩ := gvv_ptr (call_args ho hc hl hO x (by simp)) h1
  have en := gvv_int (call_args ho hc hl hO n (by simp)) h0
  obtain ⟨vs, cs, f, e1, e2, e3, e4⟩ := rel_cells (hR.at h2 hL) off m (by omega)
  rw [h7] at e1
  obtain rfl := gvs_bytes e1
  have hsz : L.base + off + m ≤ cs.size := by
    have hbl : b.length = m := by simpa using e2
    have := e4 (m - 1) _ (List.getElem?_eq_getElem (by rw [List.length_map]; omega))
    have := (Array.getElem?_eq_some_iff.1 this).1
    omega
  have hlies : liesAt P P.depth e' (cs.size / P.cellsOf e') (L.base + off) u m = true := by
    have hd : P.depth = (2 * (P.types.size + Made.depth) + 1) + 1 := rfl
    have hrow : rowAt P (sameLayout P P.depth · u) P.depth e' (cs.size / P.cellsOf e') (L.base + off) m = true := by
      rw [hd]
      unfold rowAt
      simp only [h33, Nat.one_ne_zero, if_false, Nat.div_one, Nat.mod_one, beq_self_eq_true, Bool.true_and, Bool.or_eq_true, Bool.and_eq_true, decide_eq_true_eq]
      exact .inl ⟨hsz, h34⟩
    have h9 : liesAt P ((2 * (P.types.size + Made.depth) + 1) + 1) e' (cs.size / P.cellsOf e') (L.base + off) u m = true := by
      unfold liesAt
      rw [hrow]; rfl
    exact h9
  have hload : ∀ (k : Nat) (t : List Nat) (acc : ByteArray), (∀ j n, t[j]? = some n → cs[L.base + off + k + j]? = some (.int .u8 (Int.ofNat n))) → (loadBytes ⟨L.b, L.base + off + k, none⟩ acc t.length).run P w = .ok ⟨acc.data ++ (t.map UInt8.ofNat).toArray⟩ w := by
    intro k t
    induction t generalizing k with
    | nil => intro acc _; simp [loadBytes]
    | cons a t ih =>
      intro acc hh
      have h8 := run_load_at (P := P) e3 (hh 0 a rfl)
      rw [Nat.add_zero] at h8
      simp only [List.length_cons, loadBytes, Sem.run_bind, h8, Result.andThen_ok, addr_add]
      rw [Nat.add_assoc (L.base + off) k 1, ih (k + 1) _ (fun j n e => by have := hh (j + 1) n (by simpa using e); rwa [show L.base + off + k + (j + 1) = L.base + off + (k + 1) + j by omega] at this)]
      congr 1
      apply ByteArray.ext
      apply Array.toList_inj.1
      simp [ByteArray.push]
  have hbl : b.length = m := by simpa using e2
  have hl0 := hload 0 b .empty (fun j n e => by rw [Nat.add_zero]; exact e4 j _ (by simp [e]))
  rw [hbl, Nat.add_zero] at hl0
  have hb : w.heap[L.b]? = some (.cells cs e' f) := e3
  have hfr : Fr (fun β => β = L.b) w (w.freeze ⟨L.b, L.base + off, none⟩ m) := by
    unfold World.freeze
    rw [if_neg hm0]
    exact ⟨rfl, rfl, rfl, by simp, fun k _ hk => by simp only [Array.getElem?_modify, if_neg (fun e : L.b = k => hk e.symm)]⟩
  have hev : Ev P s H w s (hset H i none) (w.freeze ⟨L.b, L.base + off, none⟩ m) := Ev.dropSet hR h2 hL hfr
  refine wpIn_run (fun c => by rw [ho]; simp) (w' := w.freeze ⟨L.b, L.base + off, none⟩ m) (u := strV b) ?_ ⟨_, s, ac.defers, rfl, by simp only [gv]; rw [if_pos (all_lt h6)], hev, hD⟩
  have hmax : IntKind.i64.max = 9223372036854775807 := rfl
  have hmi : ¬ (9223372036854775807 : Int) < (m : Int) := by omega
  have hmn : ¬ (m : Int) < 0 := by omega
  have hdef : ∀ (ts : Array TypeId) (ty : TypeId) (a : Addr) (v : Value), Builtin.unsafeString_ ts ty #[.pointer (some a), v] = (do
      let n ← asInt v
      let some pt := ts[0]? | stuck "unsafe.String: no argument types"
      if n < 0 then runtimePanic (.error "unsafe.String: len out of range")
      if n > IntKind.i64.max then unsupported (.unsafePointer "String: a length above the largest int")
      if n = 0 then pure (.string .empty)
      else if ← variablesAt a (← elemOf pt) n.toNat then do
        let s ← loadBytes a .empty n.toNat
        freeze a n.toNat
        pure (.string s)
      else unsupported (.unsafePointer "String: not so many bytes at ptr")) := fun _ _ _ _ => rfl
  rw [call_run ho hc hl]
  simp only [builtin, List.map_cons, List.map_nil, exx, en, Sem.run_bind]
  rw [hdef]
  simp [asInt, asIntOf, ht, hmax, hmi, hmn, hm0, variablesAt, shape_at hb, elemOf, run_underlying hu, hlies, hl0, strV]
end
end Go.Xe
