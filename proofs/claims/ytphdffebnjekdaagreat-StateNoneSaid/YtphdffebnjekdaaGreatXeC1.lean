/- Operations that look at memory, or turn it: pointers, bytes, maps. -/
import Derived.Test.YtphdffebnjekdaaGreatXeM
import Derived.Laws.BytesString
namespace Go.Xe
open Go
section
variable {P : Program} {cl : CallT} {o : Oper} {d : Dst} {s : Pl} {ρ : Operand → Value} {r : Regs} {x : XO}
theorem shape_at {w : World} {b : Nat} {cs : Array Value} {e : TypeId} {f : Nat × Nat} (h : w.heap[b]? = some (.cells cs e f)) : w.shape? b = some (e, cs.size) := by unfold World.shape?; rw [h]
theorem run_viewAt {w : World} {b : Nat} {cs : Array Value} {e : TypeId} {f : Nat × Nat} (h : w.heap[b]? = some (.cells cs e f)) : (viewAt b).run P w = .ok none w := by
  simp only [viewAt, Sem.run_bind, run_shape, shape_at h, Result.andThen_ok, Option.isSome_some, if_true, Sem.run_pure]
theorem run_seenAt {w : World} {b off : Nat} {cs : Array Value} {e : TypeId} {f : Nat × Nat} (h : w.heap[b]? = some (.cells cs e f)) : (Conv.seenAt ⟨b, off, none⟩).run P w = .ok ⟨b, off, none⟩ w := by
  simp only [Conv.seenAt, Sem.run_bind, run_viewAt h, Result.andThen_ok, Sem.run_pure]
theorem cvp_full {a t e : TypeId} {n : Nat} {x : Operand} (ho : o.op = .convert a t x) (ha : P.underlying a = some (.pointer e)) (ht : P.underlying t = some .unsafePointer) (hn : sz P e = some (n + 1)) :
    Full P cl o d (.cvp d (cO x)) := fun ih r D H h => by
  have h : onPtr (ov (cO x) r) (fun i off => atCells i H (fun _ _ l => nth off l (fun _ => ih (put d (.ptr i off) r) D H))) = true := h
  obtain ⟨i, off, h1, h⟩ := onPtr_iff.1 h
  obtain ⟨ex, e', l, h2, h⟩ := atCells_iff.1 h
  obtain ⟨v, h3, h⟩ := nth_iff.1 h
  refine ⟨_, D, H, h, fun ro s w ac Q hR hO hD => ?_⟩
  have hx := hO x (by rw [ho]; simp [Op.operands])
  rw [h1] at hx
  obtain ⟨L, hL, ea⟩ := gvv_ptr hx rfl
  obtain ⟨y, cs, f, e1, e2, e3⟩ := rel_cell (hR.at h2 hL) h3
  have hlt := (Array.getElem?_eq_some_iff.1 e3).1
  refine wpIn_run (fun c => by rw [ho]; simp) (w' := w) (u := .pointer (some ⟨L.b, L.base + off, none⟩)) ?_ ⟨_, s, ac.defers, rfl, by rw [← ea]; exact hx, .refl hR, hD⟩
  have hnot : ¬ (L.base + off ≥ cs.size) := by omega
  simp only [execOp, ho, ea, convert, Sem.run_bind, run_underlying ha, run_underlying ht, Result.andThen_ok, Conv.unsafePointer, run_seenAt e2, cellsIn, run_shape, shape_at e2, Sem.run_pure, run_sizeOf hn]
  simp [hnot]
theorem cvp2_full {a t u : TypeId} {n : Nat} {x : Operand} (ho : o.op = .convert a t x) (ha : P.underlying a = some .unsafePointer) (ht : P.underlying t = some (.pointer u)) (hn : sz P u = some (n + 1)) :
    Full P cl o d (.cvp2 u d (cO x)) := fun ih r D H h => by
  have h : onPtr (ov (cO x) r) (fun i off => atCells i H (fun ex e l => chk (andF ex (liesAt P P.depth e (lenF l / P.cellsOf e) off u 1)) (ih (put d (.ptr i off) r) D H))) = true := h
  obtain ⟨i, off, h1, h⟩ := onPtr_iff.1 h
  obtain ⟨ex, e', l, h2, h⟩ := atCells_iff.1 h
  obtain ⟨h3, h⟩ := chk_iff.1 h
  rw [andF_iff, lenF_eq] at h3
  refine ⟨_, D, H, h, fun ro s w ac Q hR hO hD => ?_⟩
  have hx := hO x (by rw [ho]; simp [Op.operands])
  rw [h1] at hx
  obtain ⟨L, hL, ea⟩ := gvv_ptr hx rfl
  obtain ⟨cs, f, e1, e2, e3, e4, _⟩ := hR.at h2 hL
  obtain ⟨e5, e6⟩ := e4 h3.1
  refine wpIn_run (fun c => by rw [ho]; simp) (w' := w) (u := .pointer (some ⟨L.b, L.base + off, none⟩)) ?_ ⟨_, s, ac.defers, rfl, by rw [← ea]; exact hx, .refl hR, hD⟩
  have hlie : liesAt P P.depth e' (cs.size / P.cellsOf e') (L.base + off) u 1 = true := by rw [e5, e6, Nat.zero_add]; exact h3.2
  simp only [execOp, ho, ea, convert, Sem.run_bind, run_underlying ha, run_underlying ht, Result.andThen_ok, Conv.unsafePointer, run_seenAt e1, run_sizeOf hn, variablesAt, run_program, run_shape, shape_at e1, Sem.run_pure, hlie]
  simp
/-! Bytes. -/
theorem gvs_bytes {t : List Nat} {vs : List Value} (h : gvs s (t.map byteV) = some vs) : vs = t.map fun n => Value.int .u8 (Int.ofNat n) := by
  rw [gvs_map (g := fun n => Value.int .u8 (Int.ofNat n)) (fun a _ => rfl)] at h
  exact (Option.some.inj h).symm
theorem push_bytes (t : List Nat) : ∀ b : ByteArray, (t.map Int.ofNat).foldl (fun r n => r.push (UInt8.ofNat n.toNat)) b = ⟨b.data ++ (t.map UInt8.ofNat).toArray⟩ := by
  induction t with
  | nil => intro b; apply ByteArray.ext; simp
  | cons n t ih =>
    intro b
    simp only [List.map_cons, List.foldl_cons]
    rw [ih]
    apply ByteArray.ext
    apply Array.toList_inj.1
    simp [ByteArray.push]
theorem all_lt {t : List Nat} (h : ∀ n ∈ t, n < 256) : t.all (Nat.blt · 256) = true := List.all_eq_true.2 fun n hn => by rw [Nat.blt_eq]; exact h n hn
theorem bytesOf_sound {a : AV} {H : Heap} {k : List Nat → Bool} (h : bytesOf a H k = true) : ∃ t, k t = true ∧ ∀ (s : Pl) (w : World) v, Rel P s H w → gv s a = some v → t.all (Nat.blt · 256) = true ∧ (∃ x n c, v = .slice x n c) ∧ (Conv.bytesToString v).run P w = .ok (strV t) w := by
  cases a with
  | nils => exact ⟨[], h, fun s w v hR hv => by obtain rfl := gvv_nils hv rfl; exact ⟨rfl, ⟨_, _, _, rfl⟩, rfl⟩⟩
  | slice i off len q cap =>
    have h : atCells i H (fun _ _ l => cut off l (fun _ q => cut len q (fun c _ => bytes c k))) = true := h
    obtain ⟨ex, e, l, h2, h⟩ := atCells_iff.1 h
    obtain ⟨h3, h⟩ := cut_iff.1 h
    obtain ⟨h4, h⟩ := cut_iff.1 h
    obtain ⟨t, h5, h6, h⟩ := bytes_iff.1 h
    rw [List.length_drop] at h4
    refine ⟨t, h, fun s w v hR hv => ⟨all_lt h5, ?_⟩⟩
    obtain ⟨L, c, hL, rfl, _⟩ := gvv_slice hv rfl
    obtain ⟨vs, cs, f, e1, e2, e3, e4⟩ := rel_cells (hR.at h2 hL) off len (by omega)
    rw [h6] at e1
    obtain rfl := gvs_bytes e1
    have hl := run_loadCells_at (P := P) e3 e4
    rw [e2] at hl
    refine ⟨⟨_, _, _, rfl⟩, ?_⟩
    rw [run_bytesToString w _ len c (t.map Int.ofNat) (by rw [List.map_map]; exact hl), push_bytes]
    simp [strV]
  | _ => exact ft h
theorem cvbs_full {a t e : TypeId} {x : Operand} (ho : o.op = .convert a t x) (ha : P.underlying a = some (.slice e)) (ht : P.underlying t = some .string) (he : P.underlying e = some (.int .u8)) :
    Full P cl o d (.cvbs d (cO x)) := fun ih r D H h => by
  have h : bytesOf (ov (cO x) r) H (fun t => ih (put d (.str t) r) D H) = true := h
  obtain ⟨t', h1, h2⟩ := bytesOf_sound (P := P) h
  refine ⟨_, D, H, h1, fun ro s w ac Q hR hO hD => ?_⟩
  obtain ⟨h3, ⟨y, n, c, hv⟩, h4⟩ := h2 s w _ hR (hO x (by rw [ho]; simp [Op.operands]))
  refine wpIn_run (fun c => by rw [ho]; simp) (w' := w) (u := strV t') ?_ ⟨_, s, ac.defers, rfl, by simp only [gv]; rw [if_pos h3], .refl hR, hD⟩
  simp only [execOp, ho, Sem.run_bind]
  rw [hv] at h4 ⊢
  rw [run_convert_bytes_string w a t e y n c ha he ht, h4]
  rfl
/-! Maps. -/
theorem ba_beq {a b : ByteArray} : (a == b) = true ↔ a = b := by
  cases a with | mk a => cases b with | mk b =>
  show (a == b) = true ↔ _
  rw [beq_iff_eq]
  exact ⟨fun h => by rw [h], fun h => congrArg ByteArray.data h⟩
theorem sameNow_equal {kt : TypeId} {u : TypeDesc} (hu : P.underlying kt = some u) {a b : Value} {c : Bool} (h : Instr.sameNow u a b = some c) (w : World) : (Op.equal kt a b).run P w = .ok c w := by
  have e0 : Op.equal kt a b = Op.equalIn (9999 + 1) kt a b := rfl
  rw [e0, Op.equalIn]
  unfold Instr.sameNow at h
  split at h
  · rename_i k a' k' b'
    split at h
    · rename_i hk
      cases h
      simp only [Sem.run_bind, run_underlying hu, Result.andThen_ok, hk, if_true, Sem.run_pure]
    · cases h
  · cases h; simp only [Sem.run_bind, run_underlying hu, Result.andThen_ok, Sem.run_pure]
  · cases h; simp only [Sem.run_bind, run_underlying hu, Result.andThen_ok, Sem.run_pure]
  · cases h
/-- The kind of a map's keys. -/
def KK (P : Program) (kt : TypeId) (kk : Nat) : Prop := ∃ u, P.underlying kt = some u ∧ (kk = 0 → ∃ k, u = .int k) ∧ (kk = 1 → u = .string)
theorem kkOf_spec {kt : TypeId} {u : TypeDesc} (hu : P.underlying kt = some u) : KK P kt (kkOf P kt) := by
  refine ⟨u, hu, ?_⟩
  unfold kkOf und
  rw [hu]
  cases u <;> simp
theorem keyEq_sound {kk : Nat} {kt : TypeId} {a b : AV} {K : Bool → Bool} (hk : KK P kt kk) (h : keyEq P kk kt a b K = true) : ∃ c, K c = true ∧
    (∀ (s : Pl) (v u : Value) w, gv s a = some v → gv s b = some u → (Op.equal kt v u).run P w = .ok c w) ∧ (simpleKey a kk = true → c = true → ∀ (s : Pl) (v u : Value), gv s a = some v → gv s b = some u → Instr.sameBits 10000 u v = true) := by
  obtain ⟨u, hu, h0, h1⟩ := hk
  have gen : simpleKey a kk = false → genKey P kt a b K = true → ∃ c, K c = true ∧
    (∀ (s : Pl) (v u : Value) w, gv s a = some v → gv s b = some u → (Op.equal kt v u).run P w = .ok c w) ∧ (simpleKey a kk = true → c = true → ∀ (s : Pl) (v u : Value), gv s a = some v → gv s b = some u → Instr.sameBits 10000 u v = true) := fun hs hg => by
    obtain ⟨x, e1, hg⟩ := onSome_iff.1 hg
    obtain ⟨y, e2, hg⟩ := onSome_iff.1 hg
    obtain ⟨c, e3, hg⟩ := onSome_iff.1 hg
    exact ⟨c, hg, fun s v u w hv hu' => by rw [gvv_toV hv e1, gvv_toV hu' e2]; exact pureRun_run e3 w, fun h => by rw [hs] at h; cases h⟩
  cases a with
  | int k n =>
    obtain ⟨e1, h⟩ := chk_iff.1 (show chk (Nat.beq kk 0) (onInt b (fun j m => chk (eqK k j) (K (eqF n m)))) = true from h)
    rw [Nat.beq_eq] at e1
    obtain ⟨j, m, rfl, h⟩ := onInt_iff.1 h
    obtain ⟨e2, h9⟩ := chk_iff.1 h
    rw [eqK_iff] at e2; subst e2
    obtain ⟨k', rfl⟩ := h0 e1
    refine ⟨_, h9, fun s v u w hv hu' => ?_, fun _ hc s v u hv hu' => ?_⟩
    · rw [gvv_int hv rfl, gvv_int hu' rfl]
      exact sameNow_equal hu (by simp [Instr.sameNow, eqF_eq]) w
    · rw [gvv_int hv rfl, gvv_int hu' rfl]
      rw [eqF_eq] at hc
      have : n = m := by simpa using hc
      subst this
      show (k == k && n == n) = true
      simp
  | str t =>
    obtain ⟨e1, h⟩ := chk_iff.1 (show chk (Nat.beq kk 1) (onStr b (fun t' => K (eqS t t'))) = true from h)
    rw [Nat.beq_eq] at e1
    obtain ⟨t', rfl, h9⟩ := onStr_iff.1 h
    obtain rfl := h1 e1
    refine ⟨_, h9, fun s v u w hv hu' => ?_, fun _ hc s v u hv hu' => ?_⟩
    · obtain ⟨a1, rfl⟩ := gvv_str hv rfl
      obtain ⟨a2, rfl⟩ := gvv_str hu' rfl
      refine sameNow_equal hu ?_ w
      simp only [Instr.sameNow, strV, Option.some.injEq]
      rw [Bool.eq_iff_iff, eqS_iff, ba_beq]
      refine ⟨fun h => ?_, fun h => by rw [h]⟩
      have := congrArg (fun x => x.data.toList) h
      exact bsL_inj a1 a2 (by simpa [bsL] using this)
    · obtain ⟨a1, rfl⟩ := gvv_str hv rfl
      obtain ⟨a2, rfl⟩ := gvv_str hu' rfl
      rw [eqS_iff] at hc; subst hc
      show ((_ : ByteArray) == _) = true
      exact ba_beq.2 rfl
  | _ => exact gen rfl h
theorem findAsking_next {kt : TypeId} {k : Value} {e : MapEntry} {es : List MapEntry} {i : Nat} {w : World} {c : Bool} (h : (Op.equal kt k e.key).run P w = .ok c w) :
    (Instr.findAsking kt k (e :: es) i).run P w = if c then .ok (some (i, e.val)) w else (Instr.findAsking kt k es (i + 1)).run P w := by
  simp only [Instr.findAsking, Sem.run_bind, h, Result.andThen_ok]
  cases c <;> rfl
theorem findNow_asking {kt : TypeId} {u : TypeDesc} (hu : P.underlying kt = some u) {k : Value} {w : World} : ∀ {es : List MapEntry} {i : Nat} {x : Option (Nat × Value)}, Instr.findNow u k es i = some x → (Instr.findAsking kt k es i).run P w = .ok x w
  | [], i, x, h => by simp only [Instr.findNow, Option.some.injEq] at h; subst h; rfl
  | e :: es, i, x, h => by
    simp only [Instr.findNow] at h
    split at h
    · rename_i hs
      rw [findAsking_next (sameNow_equal hu hs w)]
      cases h; rfl
    · rename_i hs
      rw [findAsking_next (sameNow_equal hu hs w)]
      exact findNow_asking hu h
    · cases h
theorem findKey_of {kt : TypeId} {u : TypeDesc} (hu : P.underlying kt = some u) {k : Value} {es : List MapEntry} {x : Option (Nat × Value)} {w : World} (h : (Instr.findAsking kt k es).run P w = .ok x w) : (Instr.findKey kt k es).run P w = .ok x w := by
  simp only [Instr.findKey, Sem.run_bind, run_underlying hu, Result.andThen_ok]
  split
  · rename_i r hr
    have := findNow_asking hu (w := w) hr
    rw [h] at this; cases this; rfl
  · exact h
theorem EntRel.length : ∀ {es : List (AV × AV × Nat)} {ms : List MapEntry}, EntRel s es ms → ms.length = es.length
  | [], [], _ => rfl
  | _ :: _, _ :: _, ⟨_, _, _, h⟩ => by simp [EntRel.length h]
  | [], _ :: _, h => h.elim
  | _ :: _, [], h => h.elim
theorem EntRel.get : ∀ {es : List (AV × AV × Nat)} {ms : List MapEntry} {i : Nat} {e : AV × AV × Nat}, EntRel s es ms → es[i]? = some e → ∃ m, ms[i]? = some m ∧ gv s e.1 = some m.key ∧ gv s e.2.1 = some m.val ∧ e.2.2 = m.born
  | _ :: _, m :: _, 0, _, ⟨a, b, c, _⟩, h => by simp only [List.getElem?_cons_zero, Option.some.injEq] at h; subst h; exact ⟨m, rfl, a, b, c⟩
  | _ :: _, _ :: _, i + 1, _, ⟨_, _, _, k⟩, h => by simp only [List.getElem?_cons_succ] at h ⊢; exact EntRel.get k h
  | [], _, _, _, _, h => by simp at h
  | _ :: _, [], _, _, h, _ => h.elim
theorem EntRel.set : ∀ {es : List (AV × AV × Nat)} {ms : List MapEntry} {i : Nat} {e : AV × AV × Nat} {m : MapEntry}, EntRel s es ms → gv s e.1 = some m.key → gv s e.2.1 = some m.val → e.2.2 = m.born → EntRel s (es.set i e) (ms.set i m)
  | [], [], _, _, _, _, _, _, _ => trivial
  | _ :: _, _ :: _, 0, _, _, ⟨_, _, _, d⟩, h1, h2, h3 => ⟨h1, h2, h3, d⟩
  | _ :: _, _ :: _, i + 1, _, _, ⟨a, b, c, d⟩, h1, h2, h3 => ⟨a, b, c, EntRel.set d h1 h2 h3⟩
  | [], _ :: _, _, _, _, h, _, _, _ => h.elim
  | _ :: _, [], _, _, _, h, _, _, _ => h.elim
theorem EntRel.push : ∀ {es : List (AV × AV × Nat)} {ms : List MapEntry} {e : AV × AV × Nat} {m : MapEntry}, EntRel s es ms → gv s e.1 = some m.key → gv s e.2.1 = some m.val → e.2.2 = m.born → EntRel s (es ++ [e]) (ms ++ [m])
  | [], [], _, _, _, h1, h2, h3 => ⟨h1, h2, h3, trivial⟩
  | _ :: _, _ :: _, _, _, ⟨a, b, c, d⟩, h1, h2, h3 => ⟨a, b, c, EntRel.push d h1 h2 h3⟩
  | [], _ :: _, _, _, h, _, _, _ => h.elim
  | _ :: _, [], _, _, h, _, _, _ => h.elim
/-- A key is looked for. -/
def Found (P : Program) (kt : TypeId) (a : AV) (es : List (AV × AV × Nat)) (n : Nat) : Option (AV × AV × Nat) → Prop
  | none => ∀ (s : Pl) kv ms w, gv s a = some kv → EntRel s es ms → (Instr.findAsking kt kv ms n).run P w = .ok none w
  | some e => ∃ i, es[i]? = some e ∧ ∀ (s : Pl) kv ms w, gv s a = some kv → EntRel s es ms → ∃ m, ms[i]? = some m ∧ (Instr.findAsking kt kv ms n).run P w = .ok (some (n + i, m.val)) w
theorem mfind_sound {kk : Nat} {kt : TypeId} {a : AV} (hk : KK P kt kk) : ∀ {es : List (AV × AV × Nat)} {n : Nat} {k : Option (AV × AV × Nat) → Bool}, mfind P kk kt a es k = true → ∃ m, k m = true ∧ Found P kt a es n m
  | [], n, k, h => ⟨none, h, fun s kv ms w _ he => by cases ms with | nil => rfl | cons _ _ => exact he.elim⟩
  | e :: es, n, k, h => by
    obtain ⟨c, h1, h2, _⟩ := keyEq_sound hk (show keyEq P kk kt a e.1 (fun b => @Bool.rec (fun _ => Bool) (mfind P kk kt a es k) (k (some e)) b) = true from h)
    cases c with
    | true =>
      refine ⟨some e, h1, 0, rfl, fun s kv ms w hkv he => ?_⟩
      cases ms with
      | nil => exact he.elim
      | cons m ms => exact ⟨m, rfl, by rw [findAsking_next (h2 s kv m.key w hkv he.1)]; rfl⟩
    | false =>
      obtain ⟨m, h3, h4⟩ := mfind_sound hk (n := n + 1) (show mfind P kk kt a es k = true from h1)
      refine ⟨m, h3, ?_⟩
      cases m with
      | none =>
        intro s kv ms w hkv he
        cases ms with
        | nil => exact he.elim
        | cons m ms => rw [findAsking_next (h2 s kv m.key w hkv he.1)]; exact h4 s kv ms w hkv he.2.2.2
      | some x =>
        obtain ⟨i, h5, h6⟩ := h4
        refine ⟨i + 1, h5, fun s kv ms w hkv he => ?_⟩
        cases ms with
        | nil => exact he.elim
        | cons m ms =>
          obtain ⟨y, h7, h8⟩ := h6 s kv ms w hkv he.2.2.2
          exact ⟨y, h7, by rw [findAsking_next (h2 s kv m.key w hkv he.1), show n + (i + 1) = n + 1 + i by omega]; exact h8⟩
/-- A key's entry is put. -/
theorem mput_sound {kk : Nat} {kt : TypeId} {a v : AV} (hk : KK P kt kk) : ∀ {es : List (AV × AV × Nat)} {n : Nat} {k : Option (AV × AV × Nat) → List (AV × AV × Nat) → Bool}, mput P kk kt a v es k = true →
    (k none es = true ∧ Found P kt a es n none) ∨ ∃ i e, es[i]? = some e ∧ k (some e) (es.set i (a, v, e.2.2)) = true ∧
      ∀ (s : Pl) kv ms w, gv s a = some kv → EntRel s es ms → ∃ m, ms[i]? = some m ∧ (Instr.findAsking kt kv ms n).run P w = .ok (some (n + i, m.val)) w ∧ Instr.sameBits 10000 m.key kv = true
  | [], n, k, h => .inl ⟨h, fun s kv ms w _ he => by cases ms with | nil => rfl | cons _ _ => exact he.elim⟩
  | e :: es, n, k, h => by
    obtain ⟨c, h1, h2, h2'⟩ := keyEq_sound hk (show keyEq P kk kt a e.1 (fun b => @Bool.rec (fun _ => Bool) (mput P kk kt a v es (fun x l => k x (e :: l))) (chk (sameKey kk e.1 a) (k (some e) ((a, v, e.2.2) :: es))) b) = true from h)
    cases c with
    | true =>
      obtain ⟨h3, h4⟩ := chk_iff.1 (show chk (sameKey kk e.1 a) (k (some e) ((a, v, e.2.2) :: es)) = true from h1)
      refine .inr ⟨0, e, rfl, h4, fun s kv ms w hkv he => ?_⟩
      cases ms with
      | nil => exact he.elim
      | cons m ms =>
        refine ⟨m, rfl, by rw [findAsking_next (h2 s kv m.key w hkv he.1)]; rfl, ?_⟩
        unfold sameKey at h3
        rw [orF_eq, Bool.or_eq_true] at h3
        rcases h3 with h5 | h5
        · exact h2' h5 rfl s kv m.key hkv he.1
        · unfold sameKeyB at h5
          split at h5
          · rename_i x y e1 e2
            have a1 := gvv_toV he.1 e1
            have a2 := gvv_toV hkv e2
            rw [a1, a2]; exact h5
          · cases h5
    | false =>
      rcases mput_sound hk (n := n + 1) (show mput P kk kt a v es (fun x l => k x (e :: l)) = true from h1) with ⟨h3, h4⟩ | ⟨i, e', h3, h4, h5⟩
      · refine .inl ⟨h3, fun s kv ms w hkv he => ?_⟩
        cases ms with
        | nil => exact he.elim
        | cons m ms => rw [findAsking_next (h2 s kv m.key w hkv he.1)]; exact h4 s kv ms w hkv he.2.2.2
      · refine .inr ⟨i + 1, e', h3, h4, fun s kv ms w hkv he => ?_⟩
        cases ms with
        | nil => exact he.elim
        | cons m ms =>
          obtain ⟨y, h7, h8, h9⟩ := h5 s kv ms w hkv he.2.2.2
          exact ⟨y, h7, by rw [findAsking_next (h2 s kv m.key w hkv he.1), show n + (i + 1) = n + 1 + i by omega]; exact h8, h9⟩
end
end Go.Xe
