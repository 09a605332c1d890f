/- The executor's dispatchers: what it says that they come to true. -/
import Derived.Test.YtphdffebnjekdaaGreatXeK
import Derived.Laws.World
import Derived.Laws.Sem
namespace Go.Xe
open Go
theorem ft {p : Prop} (h : false = true) : p := Bool.noConfusion h
theorem onInt_iff {v : AV} {k} : onInt v k = true ↔ ∃ a b, v = .int a b ∧ k a b = true := by
  cases v <;> first
    | exact ⟨fun h => ⟨_, _, rfl, h⟩, fun ⟨_, _, e, h⟩ => by cases e; exact h⟩
    | exact ⟨fun h => ft h, fun ⟨_, _, e, _⟩ => by cases e⟩
theorem onStr_iff {v : AV} {k} : onStr v k = true ↔ ∃ a, v = .str a ∧ k a = true := by
  cases v <;> first
    | exact ⟨fun h => ⟨_, rfl, h⟩, fun ⟨_, e, h⟩ => by cases e; exact h⟩
    | exact ⟨fun h => ft h, fun ⟨_, e, _⟩ => by cases e⟩
theorem onPtr_iff {v : AV} {k} : onPtr v k = true ↔ ∃ a b, v = .ptr a b ∧ k a b = true := by
  cases v <;> first
    | exact ⟨fun h => ⟨_, _, rfl, h⟩, fun ⟨_, _, e, h⟩ => by cases e; exact h⟩
    | exact ⟨fun h => ft h, fun ⟨_, _, e, _⟩ => by cases e⟩
theorem onSlice_iff {v : AV} {k} : onSlice v k = true ↔ ∃ a b c d e, v = .slice a b c d e ∧ k a b c d e = true := by
  cases v <;> first
    | exact ⟨fun h => ⟨_, _, _, _, _, rfl, h⟩, fun ⟨_, _, _, _, _, e, h⟩ => by cases e; exact h⟩
    | exact ⟨fun h => ft h, fun ⟨_, _, _, _, _, e, _⟩ => by cases e⟩
theorem onMap_iff {v : AV} {k} : onMap v k = true ↔ ∃ a, v = .map a ∧ k a = true := by
  cases v <;> first
    | exact ⟨fun h => ⟨_, rfl, h⟩, fun ⟨_, e, h⟩ => by cases e; exact h⟩
    | exact ⟨fun h => ft h, fun ⟨_, e, _⟩ => by cases e⟩
theorem onAgg_iff {v : AV} {k} : onAgg v k = true ↔ ∃ a, v = .agg a ∧ k a = true := by
  cases v <;> first
    | exact ⟨fun h => ⟨_, rfl, h⟩, fun ⟨_, e, h⟩ => by cases e; exact h⟩
    | exact ⟨fun h => ft h, fun ⟨_, e, _⟩ => by cases e⟩
theorem onTuple_iff {v : AV} {k} : onTuple v k = true ↔ ∃ a, v = .tuple a ∧ k a = true := by
  cases v <;> first
    | exact ⟨fun h => ⟨_, rfl, h⟩, fun ⟨_, e, h⟩ => by cases e; exact h⟩
    | exact ⟨fun h => ft h, fun ⟨_, e, _⟩ => by cases e⟩
theorem onFunc_iff {v : AV} {k} : onFunc v k = true ↔ ∃ a b c, v = .func a b c ∧ k a b c = true := by
  cases v <;> first
    | exact ⟨fun h => ⟨_, _, _, rfl, h⟩, fun ⟨_, _, _, e, h⟩ => by cases e; exact h⟩
    | exact ⟨fun h => ft h, fun ⟨_, _, _, e, _⟩ => by cases e⟩
theorem onBool_iff {v : AV} {k} : onBool v k = true ↔ ∃ a, v = .bool a ∧ k a = true := by
  cases v <;> first
    | exact ⟨fun h => ⟨_, rfl, h⟩, fun ⟨_, e, h⟩ => by cases e; exact h⟩
    | exact ⟨fun h => ft h, fun ⟨_, e, _⟩ => by cases e⟩
theorem bCells_iff {v : Blk} {k} : bCells v k = true ↔ ∃ a b c, v = .cells a b c ∧ k a b c = true := by
  cases v <;> first
    | exact ⟨fun h => ⟨_, _, _, rfl, h⟩, fun ⟨_, _, _, e, h⟩ => by cases e; exact h⟩
    | exact ⟨fun h => ft h, fun ⟨_, _, _, e, _⟩ => by cases e⟩
theorem bMap_iff {v : Blk} {k} : bMap v k = true ↔ ∃ a b, v = .map a b ∧ k a b = true := by
  cases v <;> first
    | exact ⟨fun h => ⟨_, _, rfl, h⟩, fun ⟨_, _, e, h⟩ => by cases e; exact h⟩
    | exact ⟨fun h => ft h, fun ⟨_, _, e, _⟩ => by cases e⟩
theorem bSiter_iff {v : Blk} {k} : bSiter v k = true ↔ ∃ a b, v = .siter a b ∧ k a b = true := by
  cases v <;> first
    | exact ⟨fun h => ⟨_, _, rfl, h⟩, fun ⟨_, _, e, h⟩ => by cases e; exact h⟩
    | exact ⟨fun h => ft h, fun ⟨_, _, e, _⟩ => by cases e⟩
theorem bIter_iff {v : Blk} {k} : bIter v k = true ↔ ∃ a b c d, v = .iter a b c d ∧ k a b c d = true := by
  cases v <;> first
    | exact ⟨fun h => ⟨_, _, _, _, rfl, h⟩, fun ⟨_, _, _, _, e, h⟩ => by cases e; exact h⟩
    | exact ⟨fun h => ft h, fun ⟨_, _, _, _, e, _⟩ => by cases e⟩
theorem bLoop_iff {v : Blk} {k} : bLoop v k = true ↔ ∃ a b c d e f, v = .loop a b c d e f ∧ k a b c d e f = true := by
  cases v <;> first
    | exact ⟨fun h => ⟨_, _, _, _, _, _, rfl, h⟩, fun ⟨_, _, _, _, _, _, e, h⟩ => by cases e; exact h⟩
    | exact ⟨fun h => ft h, fun ⟨_, _, _, _, _, _, e, _⟩ => by cases e⟩
theorem onSome_iff {α : Type} {v : Option α} {k} : onSome v k = true ↔ ∃ a, v = .some a ∧ k a = true := by
  cases v <;> first
    | exact ⟨fun h => ⟨_, rfl, h⟩, fun ⟨_, e, h⟩ => by cases e; exact h⟩
    | exact ⟨fun h => ft h, fun ⟨_, e, _⟩ => by cases e⟩
theorem onNat_iff {v : Int} {k} : onNat v k = true ↔ ∃ a, v = .ofNat a ∧ k a = true := by
  cases v <;> first
    | exact ⟨fun h => ⟨_, rfl, h⟩, fun ⟨_, e, h⟩ => by cases e; exact h⟩
    | exact ⟨fun h => ft h, fun ⟨_, e, _⟩ => by cases e⟩
theorem chk_iff {b x : Bool} : chk b x = true ↔ b = true ∧ x = true := by cases b <;> cases x <;> decide
theorem ifB_iff {b x y : Bool} : ifB b x y = true ↔ (b = true ∧ x = true) ∨ (b = false ∧ y = true) := by cases b <;> cases x <;> cases y <;> decide
theorem ifA_iff {v : AV} {x y : Bool} : ifA v x y = true ↔ (v = .bool true ∧ x = true) ∨ (v = .bool false ∧ y = true) := by
  cases v <;> first
    | (rename_i b; cases b <;> (simp only [AV.bool.injEq, Bool.false_eq_true, Bool.true_eq_false, false_and, true_and, or_false, false_or, reduceCtorEq]; exact Iff.rfl))
    | exact ⟨fun h => ft h, fun h => by rcases h with ⟨e, _⟩ | ⟨e, _⟩ <;> cases e⟩
theorem andF_iff {a b : Bool} : andF a b = true ↔ a = true ∧ b = true := by cases a <;> cases b <;> decide
theorem orF_eq {a b : Bool} : orF a b = (a || b) := by cases a <;> cases b <;> rfl
theorem andF_eq {a b : Bool} : andF a b = (a && b) := by cases a <;> cases b <;> rfl
theorem notF_eq {a : Bool} : notF a = !a := by cases a <;> rfl
theorem forceN_eq (n : Nat) (k : Nat → Bool) : forceN n k = k n := by cases n <;> rfl
theorem forceI_eq (n : Int) (k : Int → Bool) : forceI n k = k n := by
  cases n with
  | ofNat n => exact forceN_eq n _
  | negSucc n => exact forceN_eq n _
theorem addF_eq (x y : Int) : addF x y = x + y := by cases x <;> cases y <;> rfl
theorem subF_eq (x y : Int) : subF x y = x - y := by
  cases x with
  | negSucc m => rfl
  | ofNat m =>
    cases y with
    | negSucc n => rfl
    | ofNat n =>
      show (@Bool.rec (fun _ => Int) (Int.sub (Int.ofNat m) (Int.ofNat n)) (Int.ofNat (Nat.sub m n)) (Nat.ble n m)) = _
      cases h : Nat.ble n m with
      | false => rfl
      | true =>
        have := Nat.le_of_ble_eq_true h
        show Int.ofNat (m - n) = Int.ofNat m - Int.ofNat n
        simp only [Int.ofNat_eq_natCast]; omega
theorem ltF_eq (x y : Int) : ltF x y = decide (x < y) := by
  cases x with
  | ofNat m =>
    cases y with
    | ofNat n =>
      show Nat.blt m n = _
      rw [Bool.eq_iff_iff]; simp only [decide_eq_true_eq, Int.ofNat_eq_natCast]; rw [Nat.blt_eq]; omega
    | negSucc n => show false = _; rw [eq_comm, decide_eq_false_iff_not]; simp only [Int.ofNat_eq_natCast]; omega
  | negSucc m =>
    cases y with
    | ofNat n => show true = _; rw [eq_comm, decide_eq_true_eq]; simp only [Int.ofNat_eq_natCast]; omega
    | negSucc n =>
      show Nat.blt n m = _
      rw [Bool.eq_iff_iff]; simp only [decide_eq_true_eq]; rw [Nat.blt_eq]; omega
theorem eqF_eq (x y : Int) : eqF x y = (x == y) := by
  rw [Bool.eq_iff_iff, beq_iff_eq]
  cases x <;> cases y
  · show Nat.beq _ _ = true ↔ _; rw [Nat.beq_eq]; simp only [Int.ofNat_eq_natCast]; omega
  · show false = true ↔ _; constructor
    · intro h; exact ft h
    · intro h; cases h
  · show false = true ↔ _; constructor
    · intro h; exact ft h
    · intro h; cases h
  · show Nat.beq _ _ = true ↔ _; rw [Nat.beq_eq]; omega
theorem wrap_ofNat {k : IntKind} {n : Nat} (h : n < bndR k) : k.wrap (Int.ofNat n) = Int.ofNat n := by
  cases k <;> simp only [bndR] at h <;> simp only [IntKind.wrap, IntKind.bits, IntKind.signed, Int.ofNat_eq_natCast] <;> (simp only [Bool.true_and, Bool.false_and, Bool.false_eq_true, if_false, decide_eq_true_eq, ge_iff_le]; omega)
theorem wrap_negSucc {k : IntKind} {n : Nat} (hs : sgnR k = true) (h : n < bndR k) : k.wrap (Int.negSucc n) = Int.negSucc n := by
  cases k <;> first
    | (exact ft hs)
    | (simp only [bndR] at h; simp only [IntKind.wrap, IntKind.bits, IntKind.signed]; simp only [Bool.true_and, decide_eq_true_eq, ge_iff_le]; omega)
theorem wrapF_eq (n : Int) (k : IntKind) : wrapF n k = k.wrap n := by
  cases n with
  | ofNat n =>
    show @Bool.rec (fun _ => Int) _ _ (Nat.blt n (bndR k)) = _
    cases h : Nat.blt n (bndR k) with
    | false => rfl
    | true => exact (wrap_ofNat (by rwa [Nat.blt_eq] at h)).symm
  | negSucc n =>
    show @Bool.rec (fun _ => Int) _ (@Bool.rec (fun _ => Int) _ _ (Nat.blt n (bndR k))) (sgnR k) = _
    cases hs : sgnR k with
    | false => rfl
    | true =>
      cases h : Nat.blt n (bndR k) with
      | false => rfl
      | true => exact (wrap_negSucc hs (by rwa [Nat.blt_eq] at h)).symm
theorem eqK_iff {a b : IntKind} : eqK a b = true ↔ a = b := by cases a <;> cases b <;> decide
theorem eqS_iff : ∀ {x y : List Nat}, eqS x y = true ↔ x = y
  | [], [] => ⟨fun _ => rfl, fun _ => rfl⟩
  | [], _ :: _ => ⟨fun h => ft h, fun h => by cases h⟩
  | _ :: _, [] => ⟨fun h => ft h, fun h => by cases h⟩
  | a :: x, b :: y => by
    show @Bool.rec (fun _ => Bool) false (eqS x y) (Nat.beq a b) = true ↔ _
    cases h : Nat.beq a b with
    | false =>
      have : a ≠ b := fun e => by rw [e, Nat.beq_refl] at h; cases h
      exact ⟨fun h => ft h, fun h => by cases h; exact absurd rfl this⟩
    | true =>
      have : a = b := Nat.eq_of_beq_eq_true h
      subst this
      show eqS x y = true ↔ _
      rw [eqS_iff]; simp
theorem lenF_go {α : Type} : ∀ (x : List α) (n : Nat), (@List.rec α (fun _ => Nat → Nat) (fun n => n) (fun _ _ ih n => ih (Nat.succ n)) x n) = x.length + n
  | [], n => by simp
  | _ :: l, n => by show (@List.rec α (fun _ => Nat → Nat) (fun n => n) (fun _ _ ih n => ih (Nat.succ n)) l (Nat.succ n)) = _; rw [lenF_go l]; simp; omega
theorem lenF_eq {α : Type} (x : List α) : lenF x = x.length := lenF_go x 0
theorem app_eq {α : Type} : ∀ (x y : List α), app x y = x ++ y
  | [], _ => rfl
  | a :: l, y => by show a :: app l y = _; rw [app_eq l]; rfl
theorem mapF_eq {α β : Type} (f : α → β) : ∀ (x : List α), mapF f x = x.map f
  | [] => rfl
  | a :: l => by show f a :: mapF f l = _; rw [mapF_eq f l]; rfl
theorem reps_length {α : Type} (l : List α) : ∀ n, (reps n l).length = n * l.length
  | 0 => by show ([] : List α).length = _; simp
  | n + 1 => by show (app l (reps n l)).length = _; rw [app_eq, List.length_append, reps_length l n, Nat.succ_mul]; omega
theorem cut_iff {α : Type} {k : List α → List α → Bool} : ∀ {n : Nat} {l : List α}, cut n l k = true ↔ n ≤ l.length ∧ k (l.take n) (l.drop n) = true := by
  intro n
  induction n generalizing k with
  | zero => intro l; show k [] l = true ↔ _; simp
  | succ n ih =>
    intro l
    cases l with
    | nil => exact ⟨fun h => ft h, fun h => by simp at h⟩
    | cons a l =>
      show cut n l (fun p q => k (a :: p) q) = true ↔ _
      rw [ih]; simp
theorem nth_iff {α : Type} {k : α → Bool} : ∀ {n : Nat} {l : List α}, nth n l k = true ↔ ∃ a, l[n]? = some a ∧ k a = true := by
  intro n
  induction n with
  | zero =>
    intro l
    cases l with
    | nil => exact ⟨fun h => ft h, fun h => by simp at h⟩
    | cons a l => show k a = true ↔ _; simp
  | succ n ih =>
    intro l
    cases l with
    | nil => exact ⟨fun h => ft h, fun h => by simp at h⟩
    | cons a l => show nth n l k = true ↔ _; rw [ih]; simp
theorem set1_iff {α : Type} {x : α} {k : List α → Bool} : ∀ {n : Nat} {l : List α}, set1 n l x k = true ↔ n < l.length ∧ k (l.set n x) = true := by
  intro n
  induction n generalizing k with
  | zero =>
    intro l
    cases l with
    | nil => exact ⟨fun h => ft h, fun h => by simp at h⟩
    | cons a l => show k (x :: l) = true ↔ _; simp
  | succ n ih =>
    intro l
    cases l with
    | nil => exact ⟨fun h => ft h, fun h => by simp at h⟩
    | cons a l => show set1 n l x (fun q => k (a :: q)) = true ↔ _; rw [ih]; simp
theorem over_iff {off : Nat} {l vs : List AV} {k : List AV → Bool} : over off l vs k = true ↔ off + vs.length ≤ l.length ∧ k (l.take off ++ (vs ++ l.drop (off + vs.length))) = true := by
  unfold over
  rw [cut_iff, cut_iff]
  simp only [lenF_eq, app_eq, List.length_drop, List.drop_drop]
  constructor
  · rintro ⟨h1, h2, h3⟩; exact ⟨by omega, h3⟩
  · rintro ⟨h1, h2⟩; exact ⟨by omega, by omega, h2⟩
theorem allCell_iff {k : Bool} : ∀ {l : List AV}, allCell l k = true ↔ (∀ a ∈ l, cell a = true) ∧ k = true
  | [] => by show k = true ↔ _; simp
  | a :: l => by show chk (cell a) (allCell l k) = true ↔ _; rw [chk_iff, allCell_iff]; simp [and_assoc]
theorem bytes_iff {k : List Nat → Bool} : ∀ {l : List AV}, bytes l k = true ↔ ∃ s : List Nat, (∀ n ∈ s, n < 256) ∧ l = s.map byteV ∧ k s = true
  | [] => by
    show k [] = true ↔ _
    exact ⟨fun h => ⟨[], by simp, rfl, h⟩, fun ⟨s, _, e, h⟩ => by cases s with | nil => exact h | cons _ _ => simp at e⟩
  | a :: l => by
    show onInt a (fun j n => chk (eqK j .u8) (onNat n (fun n => chk (Nat.blt n 256) (bytes l (fun s => k (n :: s)))))) = true ↔ _
    simp only [onInt_iff, chk_iff, eqK_iff, onNat_iff, Nat.blt_eq, bytes_iff (l := l)]
    constructor
    · rintro ⟨_, _, rfl, rfl, n, rfl, hn, s, hs, rfl, hk⟩
      exact ⟨n :: s, by simpa using ⟨hn, hs⟩, rfl, hk⟩
    · rintro ⟨s, hs, e, hk⟩
      cases s with
      | nil => simp at e
      | cons n s =>
        simp only [List.map_cons, List.cons.injEq] at e
        obtain ⟨rfl, rfl⟩ := e
        exact ⟨_, _, rfl, rfl, n, rfl, hs n (by simp), s, fun m hm => hs m (by simp [hm]), rfl, hk⟩
instance : DecidableEq D := fun a b => if h : a.toNat = b.toNat then .isTrue (by cases a <;> cases b <;> first | rfl | exact absurd h (by decide)) else .isFalse (fun e => h (by rw [e]))
theorem gD_sD {α : Type} (d e : D) (v : α) (n : N α) : gD e (sD d v n) = if e = d then v else gD e n := by
  cases n; cases d <;> cases e <;> rfl
theorem gD_mD {α : Type} (d e : D) (f : α → α) (n : N α) : gD e (mD d f n) = if e = d then f (gD e n) else gD e n := by
  cases n; cases d <;> cases e <;> rfl
theorem gD_fillN {α : Type} (d : D) (x : α) : gD d (fillN x) = x := by cases d <;> rfl
noncomputable def rget (a b : D) (r : Regs) : AV := gD b (gD a r)
theorem D.toNat_lt (d : D) : d.toNat < 16 := by cases d <;> decide
theorem D.toNat_inj {a b : D} (h : a.toNat = b.toNat) : a = b := by cases a <;> cases b <;> first | rfl | exact absurd h (by decide)
theorem D.toNat_ofNat {n : Nat} (h : n < 16) : (D.ofNat n).toNat = n := by
  match n, h with
  | 0, _ | 1, _ | 2, _ | 3, _ | 4, _ | 5, _ | 6, _ | 7, _ | 8, _ | 9, _ | 10, _ | 11, _ | 12, _ | 13, _ | 14, _ | 15, _ => rfl
  | n + 16, h => omega
theorem D.ofNat_inj {m n : Nat} (hm : m < 16) (hn : n < 16) (h : D.ofNat m = D.ofNat n) : m = n := by rw [← D.toNat_ofNat hm, ← D.toNat_ofNat hn, h]
theorem rget_rset (a b c d : D) (v : AV) (r : Regs) : rget c d (rset a b v r) = if c = a ∧ d = b then v else rget c d r := by
  unfold rget rset
  rw [gD_mD]
  by_cases h : c = a
  · subst h; rw [if_pos rfl, gD_sD]; simp
  · rw [if_neg h]; simp [h]
instance : DecidableEq Id := fun i j => if h : i.a = j.a ∧ i.b = j.b ∧ i.c = j.c ∧ i.d = j.d then .isTrue (by cases i; cases j; simp_all) else .isFalse (fun e => h (by rw [e]; exact ⟨rfl, rfl, rfl, rfl⟩))
theorem Id.toNat_inj {i j : Id} (h : i.toNat = j.toNat) : i = j := by
  cases i with | mk a b c d => cases j with | mk a' b' c' d' =>
  simp only [Id.toNat] at h
  have := a.toNat_lt; have := b.toNat_lt; have := c.toNat_lt; have := d.toNat_lt; have := a'.toNat_lt; have := b'.toNat_lt; have := c'.toNat_lt; have := d'.toNat_lt
  have h1 : a = a' := D.toNat_inj (by omega)
  have h2 : b = b' := D.toNat_inj (by omega)
  have h3 : c = c' := D.toNat_inj (by omega)
  have h4 : d = d' := D.toNat_inj (by omega)
  subst h1; subst h2; subst h3; subst h4; rfl
theorem eqId_iff {i j : Id} : eqId i j = true ↔ i = j := by
  unfold eqId
  rw [Nat.beq_eq]
  exact ⟨Id.toNat_inj, fun h => by rw [h]⟩
theorem hget_hset (H : Heap) (i j : Id) (x : Option Blk) : hget (hset H i x) j = if j = i then x else hget H j := by
  cases H with | mk nx t => cases i with | mk a b c d => cases j with | mk a' b' c' d' =>
  show gD d' (gD c' (gD b' (gD a' (mD a (mD b (mD c (sD d x))) t)))) = if _ then x else gD d' (gD c' (gD b' (gD a' t)))
  rw [gD_mD]
  by_cases h1 : a' = a
  · subst h1; rw [if_pos rfl, gD_mD]
    by_cases h2 : b' = b
    · subst h2; rw [if_pos rfl, gD_mD]
      by_cases h3 : c' = c
      · subst h3; rw [if_pos rfl, gD_sD]
        by_cases h4 : d' = d
        · subst h4; rw [if_pos rfl, if_pos rfl]
        · rw [if_neg h4, if_neg (fun e => h4 (by cases e; rfl))]
      · rw [if_neg h3, if_neg (fun e => h3 (by cases e; rfl))]
    · rw [if_neg h2, if_neg (fun e => h2 (by cases e; rfl))]
  · rw [if_neg h1, if_neg (fun e => h1 (by cases e; rfl))]
theorem nx_hset (H : Heap) (i : Id) (x : Option Blk) : (hset H i x).nx = H.nx := by cases H; rfl
theorem incD_iff {d : D} {k : D → Bool} {z : Bool} (h : incD d k z = true) : (∃ e, e.toNat = d.toNat + 1 ∧ k e = true) ∨ (d = .df ∧ z = true) := by
  cases d <;> first
    | exact .inl ⟨_, rfl, h⟩
    | exact .inr ⟨rfl, h⟩
theorem succ_iff {i : Id} {k : Id → Bool} (h : succ i k = true) : ∃ j, j.toNat = i.toNat + 1 ∧ k j = true := by
  cases i with | mk a b c d =>
  have h1 : incD d (fun d => k ⟨a, b, c, d⟩) (incD c (fun c => k ⟨a, b, c, .d0⟩) (incD b (fun b => k ⟨a, b, .d0, .d0⟩) (incD a (fun a => k ⟨a, .d0, .d0, .d0⟩) false))) = true := h
  clear h
  have e0 : D.d0.toNat = 0 := rfl
  have ef : D.df.toNat = 15 := rfl
  rcases incD_iff h1 with ⟨e, he, h⟩ | ⟨e1, h2⟩
  · exact ⟨_, by simp only [Id.toNat]; omega, h⟩
  · subst e1
    rcases incD_iff h2 with ⟨e, he, h⟩ | ⟨e1, h3⟩
    · exact ⟨_, by simp only [Id.toNat, he, e0, ef]; omega, h⟩
    · subst e1
      rcases incD_iff h3 with ⟨e, he, h⟩ | ⟨e1, h4⟩
      · exact ⟨_, by simp only [Id.toNat, he, e0, ef]; omega, h⟩
      · subst e1
        rcases incD_iff h4 with ⟨e, he, h⟩ | ⟨e1, h5⟩
        · exact ⟨_, by simp only [Id.toNat, he, e0, ef]; omega, h⟩
        · exact ft h5
theorem nx_mk (nx : Id) (t : HeapT) : (Heap.mk nx t).nx = nx := rfl
theorem hget_new (nx n : Id) (t : HeapT) (x : Blk) (j : Id) : hget (Heap.mk n (hsetT nx (some x) t)) j = if j = nx then some x else hget ⟨nx, t⟩ j := hget_hset ⟨nx, t⟩ nx j (some x)
theorem alloc_iff {H : Heap} {x : Blk} {k : Id → Heap → Bool} (h : alloc H x k = true) : ∃ H' : Heap, H'.nx.toNat = H.nx.toNat + 1 ∧ (∀ j, hget H' j = if j = H.nx then some x else hget H j) ∧ k H.nx H' = true := by
  cases H with | mk nx t =>
  have h1 : succ nx (fun n => k nx (Heap.mk n (hsetT nx (some x) t))) = true := h
  obtain ⟨j, hj, h2⟩ := succ_iff h1
  exact ⟨Heap.mk j (hsetT nx (some x) t), hj, hget_new nx j t x, h2⟩
end Go.Xe
