/- Every operation, as the compiler resolves it. -/
import Derived.Test.YtphdffebnjekdaaGreatXeC6
namespace Go.Xe
open Go
section
variable {P : Program} {cl : CallT} {o : Oper} {d : Dst}
/-- What is told of an operation, by its kind. -/
def Good (P : Program) (o : Oper) (d : Dst) (x : XO) : Prop :=
  (∀ cl, CallOK P cl → Full P cl o d x) ∧
  ((kd x = .p → ((∀ c, o.op ≠ .defer c) ∧ (Pure0 P o d x ∨ Alloc0 P o d x))) ∧
   (kd x = .l → ∃ y n, ldX x = some (y, n) ∧ LoadR P o y n ∧ (∀ c, o.op ≠ .defer c)))
theorem good_no : Good P o d .no := ⟨fun _ _ => no_full, (fun h => by cases h), (fun h => by cases h)⟩
theorem good_p {x : XO} (hd : ∀ c, o.op ≠ .defer c) (hk : kd x = .p) (h : Pure0 P o d x) : Good P o d x := ⟨fun _ _ => h.full hd, fun _ => ⟨hd, .inl h⟩, fun e => by rw [hk] at e; cases e⟩
theorem good_a {x : XO} (hd : ∀ c, o.op ≠ .defer c) (hk : kd x = .p) (h : Alloc0 P o d x) : Good P o d x := ⟨fun _ _ => h.full hd, fun _ => ⟨hd, .inr h⟩, fun e => by rw [hk] at e; cases e⟩
theorem good_c {x : XO} (hk : kd x = .c) (h : ∀ cl, CallOK P cl → Full P cl o d x) : Good P o d x := ⟨h, (fun e => by rw [hk] at e; cases e), (fun e => by rw [hk] at e; cases e)⟩
theorem okX_good {c : Bool} {x : XO} (h : c = true → Good P o d x) : Good P o d (okX c x) := by
  cases c with
  | true => exact h rfl
  | false => exact good_no
theorem cBin_good {op : BinOp} {t t' : TypeId} {x y : Operand} (ho : o.op = .binOp op t x y t') : Good P o d (cBin P op t x y d) := by
  have hd : ∀ c, o.op ≠ .defer c := fun c => by rw [ho]; simp
  have nq : ∀ (tk : Nat) (u : TypeDesc), P.underlying t = some u → nilT tk u = true → Good P o d (bif isEq op then .neq0 tk (isNeq op) d (cO x) (cO y) else .no) := fun tk u hu hT => by
    cases he : isEq op with
    | true => exact good_p hd rfl (pure_neq0 ho he hu hT)
    | false => exact good_no
  unfold cBin und
  cases hu : P.underlying t with
  | none => exact good_no
  | some u =>
    cases u with
    | int k => exact good_p hd rfl (pure_bin ho)
    | string => exact good_p hd rfl (pure_bin ho)
    | pointer e =>
      show Good P o d (bif isEq op then _ else _)
      cases he : isEq op with
      | false => exact good_no
      | true =>
        show Good P o d (match sz P e with | some (_ + 1) => _ | _ => _)
        cases hs : sz P e with
        | none => exact good_no
        | some n => cases n with
          | zero => exact good_no
          | succ n => exact good_p hd rfl (pure_peq ho he hu hs)
    | slice e => exact nq 0 _ hu rfl
    | func a b c => exact nq 1 _ hu rfl
    | map a b => exact nq 2 _ hu rfl
    | _ => exact good_p hd rfl (pure_gbin ho)
theorem cConv_good {s t : TypeId} {x : Operand} (ho : o.op = .convert s t x) : Good P o d (cConv P s t x d) := by
  have hd : ∀ c, o.op ≠ .defer c := fun c => by rw [ho]; simp
  have gcv : Good P o d (.gcv s t d (cO x)) := good_p hd rfl (pure_gcv ho)
  unfold cConv und
  cases hs : P.underlying s with
  | none => exact good_no
  | some us =>
    cases ht : P.underlying t with
    | none => cases us <;> exact good_no
    | some ut =>
      split
      · rename_i h1 h2; cases h1; cases h2; exact good_p hd rfl (pure_cvi ho hs ht)
      · rename_i e h1 h2; cases h1; cases h2
        cases hz : sz P e with
        | none => exact good_no
        | some n => cases n with
          | zero => exact good_no
          | succ n => exact good_c rfl fun _ _ => cvp_full ho hs ht hz
      · rename_i e h1 h2; cases h1; cases h2
        cases hz : sz P e with
        | none => exact good_no
        | some n => cases n with
          | zero => exact good_no
          | succ n => exact good_c rfl fun _ _ => cvp2_full ho hs ht hz
      · rename_i e h1 h2; cases h1; cases h2
        split
        · rename_i he; exact good_c rfl fun _ _ => cvbs_full ho hs ht he
        · exact good_no
      · rename_i e h1 h2; cases h1; cases h2
        split
        · rename_i he hz; exact good_a hd rfl (alloc_cvsb ho hs ht he hz)
        · exact good_no
      · exact gcv
      · exact good_no
theorem cSlice_good {t : TypeId} {x : Operand} {lo hi mx : Option Operand} (ho : o.op = .slice t x lo hi mx) : Good P o d (cSlice P t x lo hi mx d) := by
  have hd : ∀ c, o.op ≠ .defer c := fun c => by rw [ho]; simp
  unfold cSlice und
  cases hm : (mx.isSome && hi.isNone) with
  | true => exact good_no
  | false =>
    have hx : mx = none ∨ hi ≠ none := by
      cases mx with
      | none => exact .inl rfl
      | some m => cases hi with
        | none => cases hm
        | some h => exact .inr (by simp)
    show Good P o d (match P.underlying t with | some (.slice e) => _ | some .string => _ | some (.array n e) => _ | some (.pointer a) => _ | _ => _)
    split
    · rename_i e hu
      split
      · rename_i n hn; exact good_p hd rfl (pure_slc ho hu hn hx)
      · exact good_no
    · rename_i hu
      split
      · exact good_p hd rfl (pure_slcs ho hu)
      · exact good_no
    · rename_i n e hu
      split
      · rename_i m hn; exact good_p hd rfl (pure_slca ho (.inl hu) hn hx)
      · exact good_no
    · rename_i a hu
      split
      · rename_i n e hu2
        split
        · rename_i m hn; exact good_p hd rfl (pure_slca ho (.inr ⟨a, hu, hu2⟩) hn hx)
        · exact good_no
      · exact good_no
    · exact good_no
theorem cBuiltin_good {c : Call} {b : Builtin} (ho : o.op = .call c) (hc : c.callee = .builtin b) : Good P o d (cBuiltin P b c.argTypes o.type (c.args.map fun | .const _ => true | _ => false) c.args.toList d) := by
  have hd : ∀ c, o.op ≠ .defer c := fun c => by rw [ho]; simp
  unfold cBuiltin und
  split
  · rename_i x t hl ht
    split
    · rename_i hu; exact good_p hd rfl (pure_lens ho hc hl ht hu)
    · rename_i e hu; exact good_p hd rfl (pure_len ho hc hl ht hu)
    · rename_i k e hu; exact good_c rfl fun _ _ => lenm_full ho hc hl ht hu
    · exact good_no
  · rename_i x t hl ht
    split
    · rename_i e hu; exact good_p hd rfl (pure_cap ho hc hl ht hu)
    · exact good_no
  · rename_i x y t hl ht
    split
    · rename_i e hu
      split
      · rename_i n hn hb h1
        refine okX_good fun hz => ?_
        split at hz
        · rename_i z hz'
          rw [Nat.beq_eq] at hz
          refine good_c rfl fun _ _ => app_full ho hc hl ht hu hn hb hz' hz ?_
          split at h1
          · rename_i u hu1
            rw [hu1]
            show ∃ d, P.underlying u = some d ∧ ∀ k, d ≠ .int k
            split at h1
            · cases h1
            · rename_i dd hne hud; exact ⟨dd, hud, fun k e => hne k e⟩
            · cases h1
          · rename_i hu1; rw [hu1]; trivial
        · cases hz
      · exact good_no
    · exact good_no
  · rename_i x y t hl ht
    split
    · rename_i e hu
      split
      · rename_i n hn; exact good_c rfl fun _ _ => copy_full ho hc hl ht hu hn
      · exact good_no
    · exact good_no
  · rename_i x t hl ht
    split
    · rename_i e hu
      split
      · rename_i z n hz hn
        refine okX_good fun hb => ?_
        rw [Nat.beq_eq] at hb
        exact good_c rfl fun _ _ => clrs_full ho hc hl ht hu hz hb
      · exact good_no
    · rename_i k e hu; exact good_c rfl fun _ _ => clrm_full ho hc hl ht hu
    · exact good_no
  · rename_i x hl; exact good_p hd rfl (pure_usd ho hc hl)
  · rename_i x n pt hl ht
    split
    · rename_i u hu; exact good_c rfl fun _ _ => ustr_full ho hc hl ht hu
    · exact good_no
  · exact good_p hd rfl (pure_gblt ho hc)
  · exact good_p hd rfl (pure_gblt ho hc)
  · exact good_no
theorem mapT_spec {t kt e : TypeId} (h : mapT P t = some (kt, e)) : P.underlying t = some (.map kt e) ∧ KK P kt (kkOf P kt) := by
  unfold mapT und at h
  split at h
  · rename_i k e' hu
    split at h
    · rename_i u hk; cases h; exact ⟨hu, kkOf_spec hk⟩
    · cases h
  · cases h
theorem cOp_good (o : Oper) (d : Dst) : Good P o d (cOp P o d) := by
  unfold cOp
  split
  · rename_i x ho; exact good_p (fun c => by rw [ho]; simp) rfl (pure_mv (.inl ho))
  · rename_i x ho; exact good_p (fun c => by rw [ho]; simp) rfl (pure_mv (.inr ho))
  · rename_i c a b ho; exact good_p (fun c => by rw [ho]; simp) rfl (pure_pick ho)
  · rename_i e ho
    split
    · rename_i z hz; exact good_a (fun c => by rw [ho]; simp) rfl (alloc_new ho hz)
    · exact good_no
  · rename_i e x ho; exact good_a (fun c => by rw [ho]; simp) rfl (alloc_box ho)
  · rename_i t parts ho
    split
    · rename_i fs z hu hz
      refine okX_good fun hf => ?_
      split
      · rename_i ps hp; exact good_p (fun c => by rw [ho]; simp) rfl (pure_build ho hu hz hf hp)
      · exact good_no
    · rename_i n e z hu hz
      split
      · rename_i m hm
        split
        · rename_i ps hp; exact good_p (fun c => by rw [ho]; simp) rfl (pure_builda ho hu hz hm hp)
        · exact good_no
      · exact good_no
    · exact good_no
  · rename_i t len parts ho
    split
    · rename_i e hu
      split
      · rename_i m z hm hz
        refine okX_good fun hb => ?_
        rw [Bool.and_eq_true, Nat.beq_eq, Nat.ble_eq] at hb
        split
        · rename_i ps hp; exact good_a (fun c => by rw [ho]; simp) rfl (alloc_bslice ho hu hz hb.1 hb.2 hm hp)
        · exact good_no
      · exact good_no
    · exact good_no
  · rename_i t a ho
    have hd : ∀ c, o.op ≠ .defer c := fun c => by rw [ho]; simp
    split
    · rename_i u n hu hn
      cases hg : isAggD u with
      | true =>
        have hl := load_agg (P := P) ho hu hg hn
        exact ⟨fun _ _ => hl.full hd (fun _ _ _ _ => rfl), (fun h => by cases h), (fun _ => ⟨_, _, rfl, hl, hd⟩)⟩
      | false =>
        have hl := load_one (P := P) ho hu hg
        exact ⟨fun _ _ => hl.full hd (fun _ _ _ _ => rfl), (fun h => by cases h), (fun _ => ⟨_, _, rfl, hl, hd⟩)⟩
    · exact good_no
  · rename_i t a x ho
    split
    · rename_i u n hu hn
      cases hg : isAggD u with
      | true => exact good_c rfl fun _ _ => store_full ho hn
      | false =>
        match n, hn with
        | 0, _ => exact good_no
        | 1, hn => exact good_c rfl fun _ _ => store1_full ho hn
        | _ + 2, _ => exact good_no
    · exact good_no
  · rename_i x ho; exact good_p (fun c => by rw [ho]; simp) rfl (pure_nilck ho)
  · rename_i op t x y t' ho; exact cBin_good ho
  · rename_i op t x ho
    split
    · exact good_p (fun c => by rw [ho]; simp) rfl (pure_not ho)
    · exact good_p (fun c => by rw [ho]; simp) rfl (pure_gun ho)
  · rename_i s t x ho; exact cConv_good ho
  · rename_i f first cap ho
    refine okX_good fun hf => ?_
    rw [Nat.blt_eq] at hf
    exact good_p (fun c => by rw [ho]; simp) rfl (pure_mkf ho hf)
  · rename_i t r ho
    split
    · rename_i k e hu; exact good_a (fun c => by rw [ho]; simp) rfl (alloc_mkmap ho hu)
    · exact good_no
  · rename_i t l c ho
    split
    · rename_i e hu
      split
      · rename_i z n hz hn
        refine okX_good fun hb => ?_
        rw [Bool.and_eq_true, Nat.beq_eq] at hb
        exact good_a (fun c => by rw [ho]; simp) rfl (alloc_mkslice ho hu hz hb.2 hn hb.1)
      · exact good_no
    · exact good_no
  · rename_i t x lo hi mx ho; exact cSlice_good ho
  · rename_i t x f ho
    split
    · rename_i off n agg hf; exact good_p (fun c => by rw [ho]; simp) rfl (pure_fa ho hf)
    · exact good_no
  · rename_i t x f ho
    split
    · rename_i off n agg hf
      cases agg with
      | true => exact good_p (fun c => by rw [ho]; simp) rfl (pure_fldn ho hf)
      | false => exact good_p (fun c => by rw [ho]; simp) rfl (pure_fld ho hf)
    · exact good_no
  · rename_i t x i ho
    split
    · rename_i e hu
      split
      · rename_i n hn; exact good_p (fun c => by rw [ho]; simp) rfl (pure_ia ho hu hn)
      · exact good_no
    · rename_i n e hu
      split
      · rename_i m hm; exact good_p (fun c => by rw [ho]; simp) rfl (pure_iaa ho hu hm)
      · exact good_no
    · exact good_no
  · rename_i t x i ho
    split
    · rename_i hu; exact good_p (fun c => by rw [ho]; simp) rfl (pure_idx ho hu)
    · exact good_p (fun c => by rw [ho]; simp) rfl (pure_gidx ho)
    · exact good_no
  · rename_i t x k ok ho
    split
    · rename_i kt e hm
      obtain ⟨hu, hk⟩ := mapT_spec hm
      split
      · rename_i z hz; exact good_c rfl fun _ _ => lookup_full ho hu hk hz
      · exact good_no
    · exact good_no
  · rename_i t m k x ho
    split
    · rename_i kt e hm
      obtain ⟨hu, hk⟩ := mapT_spec hm
      exact good_c rfl fun _ _ => mupd_full (.inl ho) hu hk
    · exact good_no
  · rename_i t m k x ho
    split
    · rename_i kt e hm
      obtain ⟨hu, hk⟩ := mapT_spec hm
      exact good_c rfl fun _ _ => mupd_full (.inr ho) hu hk
    · exact good_no
  · rename_i t m k ho
    split
    · rename_i kt e hm
      obtain ⟨hu, hk⟩ := mapT_spec hm
      split
      · rename_i z hz; exact good_c rfl fun _ _ => mentry_full ho hu hk hz
      · exact good_no
    · exact good_no
  · rename_i t m st x ho; exact good_c rfl fun _ _ => estore_full ho
  · rename_i t x ho
    split
    · rename_i hu; exact good_a (fun c => by rw [ho]; simp) rfl (alloc_rngs ho hu)
    · rename_i k e hu; exact good_c rfl fun _ _ => rngm_full ho hu
    · exact good_no
  · rename_i it ho; exact good_c rfl fun _ _ => nxs_full ho
  · rename_i it ho; exact good_c rfl fun _ _ => nxm_full ho
  · rename_i it ho; exact good_c rfl fun _ _ => entry_full ho
  · rename_i t i ho; exact good_p (fun c => by rw [ho]; simp) rfl (pure_ext ho)
  · rename_i c ho
    split
    · rename_i b hc; exact cBuiltin_good ho hc
    · rename_i f hc
      split
      · rename_i fn hfn
        split
        · exact good_c rfl fun _ hcl => call_full hcl ho hc
        · rename_i hb
          split
          · rename_i x hl
            refine okX_good fun hf => ?_
            rw [Nat.blt_eq] at hf
            cases hn : (fn.name == "internal/abi.NoEscape" && fn.origin == "") with
            | true =>
              rw [Bool.and_eq_true, beq_iff_eq, beq_iff_eq] at hn
              exact good_c rfl fun _ _ => noesc_full ho hc hf hl hfn hb hn.1 hn.2
            | false => exact good_c rfl fun _ _ => gext_full ho hc hf
          · refine okX_good fun hf => ?_
            rw [Nat.blt_eq] at hf
            exact good_c rfl fun _ _ => gext_full ho hc hf
      · exact good_no
    · rename_i f hc; exact good_c rfl fun _ hcl => callv_full hcl ho hc
    · exact good_no
  · rename_i c ho
    split
    · rename_i f hc; exact good_c rfl fun _ _ => dfr_full ho hc
    · exact good_no
  · exact good_no
end
end Go.Xe
