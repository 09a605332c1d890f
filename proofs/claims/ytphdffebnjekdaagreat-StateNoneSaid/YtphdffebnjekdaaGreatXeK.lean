/- An executor for closed runs of Go programs: values with block names of its own; each operation resolved ahead; in continuations, so that the kernel runs it fast. -/
import GoSem.Machine.Exec
import Derived.Orders
namespace Go.Xe
noncomputable section
open Go
inductive D where
  | d0
  | d1
  | d2
  | d3
  | d4
  | d5
  | d6
  | d7
  | d8
  | d9
  | da
  | db
  | dc
  | dd
  | de
  | df
  deriving Inhabited
structure N (α : Type) where
  x0 : α
  x1 : α
  x2 : α
  x3 : α
  x4 : α
  x5 : α
  x6 : α
  x7 : α
  x8 : α
  x9 : α
  xa : α
  xb : α
  xc : α
  xd : α
  xe : α
  xf : α
def D.toNat : D → Nat
  | .d0 => 0
  | .d1 => 1
  | .d2 => 2
  | .d3 => 3
  | .d4 => 4
  | .d5 => 5
  | .d6 => 6
  | .d7 => 7
  | .d8 => 8
  | .d9 => 9
  | .da => 10
  | .db => 11
  | .dc => 12
  | .dd => 13
  | .de => 14
  | .df => 15
def D.ofNat : Nat → D
  | 0 => .d0
  | 1 => .d1
  | 2 => .d2
  | 3 => .d3
  | 4 => .d4
  | 5 => .d5
  | 6 => .d6
  | 7 => .d7
  | 8 => .d8
  | 9 => .d9
  | 10 => .da
  | 11 => .db
  | 12 => .dc
  | 13 => .dd
  | 14 => .de
  | _ => .df
def gD {α : Type} (d : D) (n : N α) : α := @D.rec (fun _ => N α → α) N.x0 N.x1 N.x2 N.x3 N.x4 N.x5 N.x6 N.x7 N.x8 N.x9 N.xa N.xb N.xc N.xd N.xe N.xf d n
def s0 {α : Type} (v : α) (n : N α) : N α := @N.rec α (fun _ => N α) (fun _ a1 a2 a3 a4 a5 a6 a7 a8 a9 aa ab ac ad ae af => N.mk v a1 a2 a3 a4 a5 a6 a7 a8 a9 aa ab ac ad ae af) n
def m0 {α : Type} (f : α → α) (n : N α) : N α := @N.rec α (fun _ => N α) (fun a0 a1 a2 a3 a4 a5 a6 a7 a8 a9 aa ab ac ad ae af => N.mk (f a0) a1 a2 a3 a4 a5 a6 a7 a8 a9 aa ab ac ad ae af) n
def s1 {α : Type} (v : α) (n : N α) : N α := @N.rec α (fun _ => N α) (fun a0 _ a2 a3 a4 a5 a6 a7 a8 a9 aa ab ac ad ae af => N.mk a0 v a2 a3 a4 a5 a6 a7 a8 a9 aa ab ac ad ae af) n
def m1 {α : Type} (f : α → α) (n : N α) : N α := @N.rec α (fun _ => N α) (fun a0 a1 a2 a3 a4 a5 a6 a7 a8 a9 aa ab ac ad ae af => N.mk a0 (f a1) a2 a3 a4 a5 a6 a7 a8 a9 aa ab ac ad ae af) n
def s2 {α : Type} (v : α) (n : N α) : N α := @N.rec α (fun _ => N α) (fun a0 a1 _ a3 a4 a5 a6 a7 a8 a9 aa ab ac ad ae af => N.mk a0 a1 v a3 a4 a5 a6 a7 a8 a9 aa ab ac ad ae af) n
def m2 {α : Type} (f : α → α) (n : N α) : N α := @N.rec α (fun _ => N α) (fun a0 a1 a2 a3 a4 a5 a6 a7 a8 a9 aa ab ac ad ae af => N.mk a0 a1 (f a2) a3 a4 a5 a6 a7 a8 a9 aa ab ac ad ae af) n
def s3 {α : Type} (v : α) (n : N α) : N α := @N.rec α (fun _ => N α) (fun a0 a1 a2 _ a4 a5 a6 a7 a8 a9 aa ab ac ad ae af => N.mk a0 a1 a2 v a4 a5 a6 a7 a8 a9 aa ab ac ad ae af) n
def m3 {α : Type} (f : α → α) (n : N α) : N α := @N.rec α (fun _ => N α) (fun a0 a1 a2 a3 a4 a5 a6 a7 a8 a9 aa ab ac ad ae af => N.mk a0 a1 a2 (f a3) a4 a5 a6 a7 a8 a9 aa ab ac ad ae af) n
def s4 {α : Type} (v : α) (n : N α) : N α := @N.rec α (fun _ => N α) (fun a0 a1 a2 a3 _ a5 a6 a7 a8 a9 aa ab ac ad ae af => N.mk a0 a1 a2 a3 v a5 a6 a7 a8 a9 aa ab ac ad ae af) n
def m4 {α : Type} (f : α → α) (n : N α) : N α := @N.rec α (fun _ => N α) (fun a0 a1 a2 a3 a4 a5 a6 a7 a8 a9 aa ab ac ad ae af => N.mk a0 a1 a2 a3 (f a4) a5 a6 a7 a8 a9 aa ab ac ad ae af) n
def s5 {α : Type} (v : α) (n : N α) : N α := @N.rec α (fun _ => N α) (fun a0 a1 a2 a3 a4 _ a6 a7 a8 a9 aa ab ac ad ae af => N.mk a0 a1 a2 a3 a4 v a6 a7 a8 a9 aa ab ac ad ae af) n
def m5 {α : Type} (f : α → α) (n : N α) : N α := @N.rec α (fun _ => N α) (fun a0 a1 a2 a3 a4 a5 a6 a7 a8 a9 aa ab ac ad ae af => N.mk a0 a1 a2 a3 a4 (f a5) a6 a7 a8 a9 aa ab ac ad ae af) n
def s6 {α : Type} (v : α) (n : N α) : N α := @N.rec α (fun _ => N α) (fun a0 a1 a2 a3 a4 a5 _ a7 a8 a9 aa ab ac ad ae af => N.mk a0 a1 a2 a3 a4 a5 v a7 a8 a9 aa ab ac ad ae af) n
def m6 {α : Type} (f : α → α) (n : N α) : N α := @N.rec α (fun _ => N α) (fun a0 a1 a2 a3 a4 a5 a6 a7 a8 a9 aa ab ac ad ae af => N.mk a0 a1 a2 a3 a4 a5 (f a6) a7 a8 a9 aa ab ac ad ae af) n
def s7 {α : Type} (v : α) (n : N α) : N α := @N.rec α (fun _ => N α) (fun a0 a1 a2 a3 a4 a5 a6 _ a8 a9 aa ab ac ad ae af => N.mk a0 a1 a2 a3 a4 a5 a6 v a8 a9 aa ab ac ad ae af) n
def m7 {α : Type} (f : α → α) (n : N α) : N α := @N.rec α (fun _ => N α) (fun a0 a1 a2 a3 a4 a5 a6 a7 a8 a9 aa ab ac ad ae af => N.mk a0 a1 a2 a3 a4 a5 a6 (f a7) a8 a9 aa ab ac ad ae af) n
def s8 {α : Type} (v : α) (n : N α) : N α := @N.rec α (fun _ => N α) (fun a0 a1 a2 a3 a4 a5 a6 a7 _ a9 aa ab ac ad ae af => N.mk a0 a1 a2 a3 a4 a5 a6 a7 v a9 aa ab ac ad ae af) n
def m8 {α : Type} (f : α → α) (n : N α) : N α := @N.rec α (fun _ => N α) (fun a0 a1 a2 a3 a4 a5 a6 a7 a8 a9 aa ab ac ad ae af => N.mk a0 a1 a2 a3 a4 a5 a6 a7 (f a8) a9 aa ab ac ad ae af) n
def s9 {α : Type} (v : α) (n : N α) : N α := @N.rec α (fun _ => N α) (fun a0 a1 a2 a3 a4 a5 a6 a7 a8 _ aa ab ac ad ae af => N.mk a0 a1 a2 a3 a4 a5 a6 a7 a8 v aa ab ac ad ae af) n
def m9 {α : Type} (f : α → α) (n : N α) : N α := @N.rec α (fun _ => N α) (fun a0 a1 a2 a3 a4 a5 a6 a7 a8 a9 aa ab ac ad ae af => N.mk a0 a1 a2 a3 a4 a5 a6 a7 a8 (f a9) aa ab ac ad ae af) n
def sa {α : Type} (v : α) (n : N α) : N α := @N.rec α (fun _ => N α) (fun a0 a1 a2 a3 a4 a5 a6 a7 a8 a9 _ ab ac ad ae af => N.mk a0 a1 a2 a3 a4 a5 a6 a7 a8 a9 v ab ac ad ae af) n
def ma {α : Type} (f : α → α) (n : N α) : N α := @N.rec α (fun _ => N α) (fun a0 a1 a2 a3 a4 a5 a6 a7 a8 a9 aa ab ac ad ae af => N.mk a0 a1 a2 a3 a4 a5 a6 a7 a8 a9 (f aa) ab ac ad ae af) n
def sb {α : Type} (v : α) (n : N α) : N α := @N.rec α (fun _ => N α) (fun a0 a1 a2 a3 a4 a5 a6 a7 a8 a9 aa _ ac ad ae af => N.mk a0 a1 a2 a3 a4 a5 a6 a7 a8 a9 aa v ac ad ae af) n
def mb {α : Type} (f : α → α) (n : N α) : N α := @N.rec α (fun _ => N α) (fun a0 a1 a2 a3 a4 a5 a6 a7 a8 a9 aa ab ac ad ae af => N.mk a0 a1 a2 a3 a4 a5 a6 a7 a8 a9 aa (f ab) ac ad ae af) n
def sc {α : Type} (v : α) (n : N α) : N α := @N.rec α (fun _ => N α) (fun a0 a1 a2 a3 a4 a5 a6 a7 a8 a9 aa ab _ ad ae af => N.mk a0 a1 a2 a3 a4 a5 a6 a7 a8 a9 aa ab v ad ae af) n
def mc {α : Type} (f : α → α) (n : N α) : N α := @N.rec α (fun _ => N α) (fun a0 a1 a2 a3 a4 a5 a6 a7 a8 a9 aa ab ac ad ae af => N.mk a0 a1 a2 a3 a4 a5 a6 a7 a8 a9 aa ab (f ac) ad ae af) n
def sd {α : Type} (v : α) (n : N α) : N α := @N.rec α (fun _ => N α) (fun a0 a1 a2 a3 a4 a5 a6 a7 a8 a9 aa ab ac _ ae af => N.mk a0 a1 a2 a3 a4 a5 a6 a7 a8 a9 aa ab ac v ae af) n
def md {α : Type} (f : α → α) (n : N α) : N α := @N.rec α (fun _ => N α) (fun a0 a1 a2 a3 a4 a5 a6 a7 a8 a9 aa ab ac ad ae af => N.mk a0 a1 a2 a3 a4 a5 a6 a7 a8 a9 aa ab ac (f ad) ae af) n
def se {α : Type} (v : α) (n : N α) : N α := @N.rec α (fun _ => N α) (fun a0 a1 a2 a3 a4 a5 a6 a7 a8 a9 aa ab ac ad _ af => N.mk a0 a1 a2 a3 a4 a5 a6 a7 a8 a9 aa ab ac ad v af) n
def me {α : Type} (f : α → α) (n : N α) : N α := @N.rec α (fun _ => N α) (fun a0 a1 a2 a3 a4 a5 a6 a7 a8 a9 aa ab ac ad ae af => N.mk a0 a1 a2 a3 a4 a5 a6 a7 a8 a9 aa ab ac ad (f ae) af) n
def sf {α : Type} (v : α) (n : N α) : N α := @N.rec α (fun _ => N α) (fun a0 a1 a2 a3 a4 a5 a6 a7 a8 a9 aa ab ac ad ae _ => N.mk a0 a1 a2 a3 a4 a5 a6 a7 a8 a9 aa ab ac ad ae v) n
def mf {α : Type} (f : α → α) (n : N α) : N α := @N.rec α (fun _ => N α) (fun a0 a1 a2 a3 a4 a5 a6 a7 a8 a9 aa ab ac ad ae af => N.mk a0 a1 a2 a3 a4 a5 a6 a7 a8 a9 aa ab ac ad ae (f af)) n
def sD {α : Type} (d : D) (v : α) (n : N α) : N α := @D.rec (fun _ => α → N α → N α) s0 s1 s2 s3 s4 s5 s6 s7 s8 s9 sa sb sc sd se sf d v n
def mD {α : Type} (d : D) (f : α → α) (n : N α) : N α := @D.rec (fun _ => (α → α) → N α → N α) m0 m1 m2 m3 m4 m5 m6 m7 m8 m9 ma mb mc md me mf d f n
def incD {α : Type} (d : D) (k : D → α) (z : α) : α := @D.rec (fun _ => (D → α) → α → α) (fun k _ => k .d1) (fun k _ => k .d2) (fun k _ => k .d3) (fun k _ => k .d4) (fun k _ => k .d5) (fun k _ => k .d6) (fun k _ => k .d7) (fun k _ => k .d8) (fun k _ => k .d9) (fun k _ => k .da) (fun k _ => k .db) (fun k _ => k .dc) (fun k _ => k .dd) (fun k _ => k .de) (fun k _ => k .df) (fun _ z => z) d k z
def fillN {α : Type} (x : α) : N α := N.mk x x x x x x x x x x x x x x x x
structure Id where
  a : D
  b : D
  c : D
  d : D
def Id.toNat (i : Id) : Nat := ((i.a.toNat * 16 + i.b.toNat) * 16 + i.c.toNat) * 16 + i.d.toNat
structure Fid where
  a : D
  b : D
  c : D
def Fid.toNat (i : Fid) : Nat := (i.a.toNat * 16 + i.b.toNat) * 16 + i.c.toNat
def Fid.ofNat (n : Nat) : Fid := ⟨D.ofNat (n / 256), D.ofNat (n / 16 % 16), D.ofNat (n % 16)⟩
inductive AV where
  | int (k : IntKind) (n : Int)
  | bool (b : Bool)
  | str (s : List Nat)
  | ptr (i : Id) (off : Nat)
  | slice (i : Id) (off len ex cap : Nat)
  | map (i : Id)
  | func (f : Fid) (first captured : List AV)
  | yield (l : Id)
  | agg (l : List AV)
  | tuple (l : List AV)
  | nilp
  | nils
  | lit (v : Value)
  deriving Inhabited
inductive Opnd where
  | t (a b : D)
  | c (v : AV)
inductive Dst where
  | n
  | p (a b : D)
inductive BF where
  | add | sub | mul | quo | rem | and | or | xor | andNot | shl | shr | eql | neq | lss | leq | gtr | geq
inductive Gd where
  | n
  | g (a b : D) (want : Bool)
inductive Cls where
  | p
  | c
  | l (ws : Nat)
inductive XO where
  | mv (d : Dst) (x : Opnd)
  | pick (d : Dst) (c : Opnd) (x : Opnd) (y : Opnd)
  | new (d : Dst) (e : TypeId) (z : List AV)
  | box (d : Dst) (e : TypeId) (x : Opnd)
  | build (d : Dst) (z : List AV) (ps : List (Nat × Nat × Opnd))
  | bslice (d : Dst) (e : TypeId) (z : List AV) (len : Nat) (ps : List (Nat × Nat × Opnd))
  | ld (d : Dst) (x : Opnd)
  | ldn (d : Dst) (x : Opnd) (n : Nat)
  | stn (d : Dst) (x : Opnd) (y : Opnd) (n : Nat)
  | st (d : Dst) (x : Opnd) (y : Opnd)
  | nilck (d : Dst) (x : Opnd)
  | bin (f : BF) (d : Dst) (x : Opnd) (y : Opnd)
  | gbin (op : BinOp) (t : TypeId) (x0 : Operand) (y0 : Operand) (d : Dst) (x : Opnd) (y : Opnd)
  | peq (neg : Bool) (d : Dst) (x : Opnd) (y : Opnd)
  | neq0 (tk : Nat) (neg : Bool) (d : Dst) (x : Opnd) (y : Opnd)
  | not (d : Dst) (x : Opnd)
  | gun (op : UnOp) (d : Dst) (x : Opnd)
  | cvi (k : IntKind) (d : Dst) (x : Opnd)
  | cvp (d : Dst) (x : Opnd)
  | cvp2 (u : TypeId) (d : Dst) (x : Opnd)
  | cvbs (d : Dst) (x : Opnd)
  | cvsb (e : TypeId) (d : Dst) (x : Opnd)
  | gcv (s : TypeId) (t : TypeId) (d : Dst) (x : Opnd)
  | mkf (d : Dst) (f : Fid) (first : List Opnd) (captured : List Opnd)
  | mkmap (d : Dst) (h : Option Opnd)
  | mkslice (d : Dst) (e : TypeId) (z : List AV) (l : Opnd) (c : Opnd)
  | slc (d : Dst) (s : Nat) (x : Opnd) (lo : Option Opnd) (hi : Option Opnd) (mx : Option Opnd)
  | slca (d : Dst) (s : Nat) (n : Nat) (x : Opnd) (lo : Option Opnd) (hi : Option Opnd) (mx : Option Opnd)
  | slcs (d : Dst) (x : Opnd) (lo : Option Opnd) (hi : Option Opnd)
  | fa (d : Dst) (x : Opnd) (off : Nat)
  | fld (d : Dst) (x : Opnd) (off : Nat)
  | fldn (d : Dst) (x : Opnd) (off : Nat) (n : Nat)
  | ia (d : Dst) (x : Opnd) (i : Opnd) (s : Nat)
  | iaa (d : Dst) (x : Opnd) (i : Opnd) (s : Nat) (n : Nat)
  | idx (d : Dst) (x : Opnd) (i : Opnd)
  | gidx (t : TypeId) (d : Dst) (x : Opnd) (i : Opnd)
  | lookup (kk : Nat) (kt : TypeId) (z : AV) (ok : Bool) (d : Dst) (x : Opnd) (k : Opnd)
  | mupd (kk : Nat) (kt : TypeId) (d : Dst) (x : Opnd) (k : Opnd) (v : Opnd)
  | mentry (kk : Nat) (kt : TypeId) (z : AV) (d : Dst) (x : Opnd) (k : Opnd)
  | estore (d : Dst) (x : Opnd) (s : Opnd) (v : Opnd)
  | rngs (d : Dst) (x : Opnd)
  | rngm (d : Dst) (x : Opnd)
  | nxs (d : Dst) (x : Opnd)
  | nxm (d : Dst) (x : Opnd)
  | entry (d : Dst) (x : Opnd)
  | ext (d : Dst) (x : Opnd) (i : Nat)
  | len (d : Dst) (x : Opnd)
  | lens (d : Dst) (x : Opnd)
  | lenm (d : Dst) (x : Opnd)
  | cap (d : Dst) (x : Opnd)
  | app (e : TypeId) (s : Nat) (d : Dst) (x : Opnd) (y : Opnd)
  | copy (s : Nat) (d : Dst) (x : Opnd) (y : Opnd)
  | clrm (d : Dst) (x : Opnd)
  | clrs (z : List AV) (d : Dst) (x : Opnd)
  | usd (d : Dst) (x : Opnd)
  | ustr (u : TypeId) (d : Dst) (x : Opnd) (n : Opnd)
  | gblt (b : Builtin) (ts : Array TypeId) (t : TypeId) (cs : Array Bool) (d : Dst) (xs : List Opnd)
  | call (d : Dst) (f : Fid) (xs : List Opnd)
  | callv (d : Dst) (x : Opnd) (xs : List Opnd)
  | noesc (d : Dst) (x : Opnd)
  | gext (f : Nat) (d : Dst) (xs : List Opnd)
  | dfr (d : Dst) (x : Opnd) (xs : List Opnd)
  | no
structure XG where
  g : Gd
  d : Dst
  c : Cls
  x : XO
inductive XC where
  | skip
  | ops (l : List XG)
  | dops (l : List XG)
  | seq (a b : XC)
  | cond (o : Opnd) (a b : XC)
  | block (id : Nat) (b : XC)
  | loop (b : XC)
  | rangeF (g : Opnd) (ps : List (D × D)) (asg body : XC)
  | exit (id : Nat)
  | ret
  | bad
inductive Ex where
  | normal
  | exit (id : Nat)
  | ret
inductive XR where
  | t (a b : D)
  | c (a b : D) (n : Option Nat)
structure XFn where
  ps : List (D × D)
  res : List XR
  body : XC
abbrev Regs := N (N AV)
inductive Blk where
  | cells (ex : Bool) (e : TypeId) (l : List AV)
  | map (es : List (AV × AV × Nat)) (clock : Nat)
  | siter (s : List Nat) (pos : Nat)
  | iter (m : Id) (since : Nat) (seen : List Nat) (last : Nat)
  | dfrs
  | loop (st : LoopState) (pend : Ex) (r : Regs) (ps : List (D × D)) (asg body : XC)
abbrev HeapT := N (N (N (N (Option Blk))))
structure Heap where
  nx : Id
  t : HeapT
inductive DE where
  | call (v : AV) (args : List AV)
  | mark (b : Id)
inductive Dfr where
  | fn (l : List DE)
  | round
abbrev KO := Regs → Dfr → Heap → Bool
abbrev CallT := Bool → AV → List AV → Heap → (AV → Heap → Bool) → Bool
abbrev Tab := N (N (N (Option XFn)))
def onInt  (v : AV) (kk : IntKind → Int → Bool) : Bool := @AV.rec (fun _ => (IntKind → Int → Bool) → Bool) (fun _ => PUnit) (fun k n kk => kk k n) (fun _ _ => false) (fun _ _ => false) (fun _ _ _ => false) (fun _ _ _ _ _ _ => false) (fun _ _ => false) (fun _ _ _ _ _ _ => false) (fun _ _ => false) (fun _ _ _ => false) (fun _ _ _ => false) (fun _ => false) (fun _ => false) (fun _ _ => false) PUnit.unit (fun _ _ _ _ => PUnit.unit) v kk
def onStr  (v : AV) (kk : List Nat → Bool) : Bool := @AV.rec (fun _ => (List Nat → Bool) → Bool) (fun _ => PUnit) (fun _ _ _ => false) (fun _ _ => false) (fun s kk => kk s) (fun _ _ _ => false) (fun _ _ _ _ _ _ => false) (fun _ _ => false) (fun _ _ _ _ _ _ => false) (fun _ _ => false) (fun _ _ _ => false) (fun _ _ _ => false) (fun _ => false) (fun _ => false) (fun _ _ => false) PUnit.unit (fun _ _ _ _ => PUnit.unit) v kk
def onPtr  (v : AV) (kk : Id → Nat → Bool) : Bool := @AV.rec (fun _ => (Id → Nat → Bool) → Bool) (fun _ => PUnit) (fun _ _ _ => false) (fun _ _ => false) (fun _ _ => false) (fun i off kk => kk i off) (fun _ _ _ _ _ _ => false) (fun _ _ => false) (fun _ _ _ _ _ _ => false) (fun _ _ => false) (fun _ _ _ => false) (fun _ _ _ => false) (fun _ => false) (fun _ => false) (fun _ _ => false) PUnit.unit (fun _ _ _ _ => PUnit.unit) v kk
def onSlice  (v : AV) (kk : Id → Nat → Nat → Nat → Nat → Bool) : Bool := @AV.rec (fun _ => (Id → Nat → Nat → Nat → Nat → Bool) → Bool) (fun _ => PUnit) (fun _ _ _ => false) (fun _ _ => false) (fun _ _ => false) (fun _ _ _ => false) (fun i off len ex cap kk => kk i off len ex cap) (fun _ _ => false) (fun _ _ _ _ _ _ => false) (fun _ _ => false) (fun _ _ _ => false) (fun _ _ _ => false) (fun _ => false) (fun _ => false) (fun _ _ => false) PUnit.unit (fun _ _ _ _ => PUnit.unit) v kk
def onMap  (v : AV) (kk : Id → Bool) : Bool := @AV.rec (fun _ => (Id → Bool) → Bool) (fun _ => PUnit) (fun _ _ _ => false) (fun _ _ => false) (fun _ _ => false) (fun _ _ _ => false) (fun _ _ _ _ _ _ => false) (fun i kk => kk i) (fun _ _ _ _ _ _ => false) (fun _ _ => false) (fun _ _ _ => false) (fun _ _ _ => false) (fun _ => false) (fun _ => false) (fun _ _ => false) PUnit.unit (fun _ _ _ _ => PUnit.unit) v kk
def onAgg  (v : AV) (kk : List AV → Bool) : Bool := @AV.rec (fun _ => (List AV → Bool) → Bool) (fun _ => PUnit) (fun _ _ _ => false) (fun _ _ => false) (fun _ _ => false) (fun _ _ _ => false) (fun _ _ _ _ _ _ => false) (fun _ _ => false) (fun _ _ _ _ _ _ => false) (fun _ _ => false) (fun l _ kk => kk l) (fun _ _ _ => false) (fun _ => false) (fun _ => false) (fun _ _ => false) PUnit.unit (fun _ _ _ _ => PUnit.unit) v kk
def onTuple  (v : AV) (kk : List AV → Bool) : Bool := @AV.rec (fun _ => (List AV → Bool) → Bool) (fun _ => PUnit) (fun _ _ _ => false) (fun _ _ => false) (fun _ _ => false) (fun _ _ _ => false) (fun _ _ _ _ _ _ => false) (fun _ _ => false) (fun _ _ _ _ _ _ => false) (fun _ _ => false) (fun _ _ _ => false) (fun l _ kk => kk l) (fun _ => false) (fun _ => false) (fun _ _ => false) PUnit.unit (fun _ _ _ _ => PUnit.unit) v kk
def onFunc  (v : AV) (kk : Fid → List AV → List AV → Bool) : Bool := @AV.rec (fun _ => (Fid → List AV → List AV → Bool) → Bool) (fun _ => PUnit) (fun _ _ _ => false) (fun _ _ => false) (fun _ _ => false) (fun _ _ _ => false) (fun _ _ _ _ _ _ => false) (fun _ _ => false) (fun f first captured _ _ kk => kk f first captured) (fun _ _ => false) (fun _ _ _ => false) (fun _ _ _ => false) (fun _ => false) (fun _ => false) (fun _ _ => false) PUnit.unit (fun _ _ _ _ => PUnit.unit) v kk
def bCells  (v : Blk) (kk : Bool → TypeId → List AV → Bool) : Bool := @Blk.rec (fun _ => (Bool → TypeId → List AV → Bool) → Bool) (fun ex e l kk => kk ex e l) (fun _ _ _ => false) (fun _ _ _ => false) (fun _ _ _ _ _ => false) (fun _ => false) (fun _ _ _ _ _ _ _ => false) v kk
def bMap  (v : Blk) (kk : List (AV × AV × Nat) → Nat → Bool) : Bool := @Blk.rec (fun _ => (List (AV × AV × Nat) → Nat → Bool) → Bool) (fun _ _ _ _ => false) (fun es clock kk => kk es clock) (fun _ _ _ => false) (fun _ _ _ _ _ => false) (fun _ => false) (fun _ _ _ _ _ _ _ => false) v kk
def bSiter  (v : Blk) (kk : List Nat → Nat → Bool) : Bool := @Blk.rec (fun _ => (List Nat → Nat → Bool) → Bool) (fun _ _ _ _ => false) (fun _ _ _ => false) (fun s pos kk => kk s pos) (fun _ _ _ _ _ => false) (fun _ => false) (fun _ _ _ _ _ _ _ => false) v kk
def bIter  (v : Blk) (kk : Id → Nat → List Nat → Nat → Bool) : Bool := @Blk.rec (fun _ => (Id → Nat → List Nat → Nat → Bool) → Bool) (fun _ _ _ _ => false) (fun _ _ _ => false) (fun _ _ _ => false) (fun m since seen last kk => kk m since seen last) (fun _ => false) (fun _ _ _ _ _ _ _ => false) v kk
def bLoop  (v : Blk) (kk : LoopState → Ex → Regs → List (D × D) → XC → XC → Bool) : Bool := @Blk.rec (fun _ => (LoopState → Ex → Regs → List (D × D) → XC → XC → Bool) → Bool) (fun _ _ _ _ => false) (fun _ _ _ => false) (fun _ _ _ => false) (fun _ _ _ _ _ => false) (fun _ => false) (fun st pend r ps asg body kk => kk st pend r ps asg body) v kk
def onSome {α : Type} (v : Option α) (k : α → Bool) : Bool := @Option.rec α (fun _ => (α → Bool) → Bool) (fun _ => false) (fun x k => k x) v k
def ifB  (v : Bool) (x : Bool) (y : Bool) : Bool := @Bool.rec (fun _ => Bool → Bool → Bool) (fun _ y => y) (fun x _ => x) v x y
def chk  (v : Bool) (x : Bool) : Bool := @Bool.rec (fun _ => Bool → Bool) (fun _ => false) (fun x => x) v x
def ov  (v : Opnd) (r : Regs) : AV := @Opnd.rec (fun _ => Regs → AV) (fun a b r => gD b (gD a r)) (fun v _ => v) v r
def rset (a b : D) (v : AV) (r : Regs) : Regs := mD a (sD b v) r
def put  (v : Dst) (x : AV) (r : Regs) : Regs := @Dst.rec (fun _ => AV → Regs → Regs) (fun _ r => r) (fun a b x r => rset a b x r) v x r
def forceN (n : Nat) (k : Nat → Bool) : Bool := @Nat.rec (fun _ => (Nat → Bool) → Bool) (fun k => k 0) (fun n _ k => k (Nat.succ n)) n k
def forceI  (v : Int) (k : Int → Bool) : Bool := @Int.rec (fun _ => (Int → Bool) → Bool) (fun n k => forceN n (fun n => k (Int.ofNat n))) (fun n k => forceN n (fun n => k (Int.negSucc n))) v k
def bnd : IntKind → Nat
  | .i8 => 128
  | .i16 => 32768
  | .i32 => 2147483648
  | .i64 => 9223372036854775808
  | .u8 => 256
  | .u16 => 65536
  | .u32 => 4294967296
  | .u64 => 18446744073709551616
def bndR (k : IntKind) : Nat := @IntKind.rec (fun _ => Nat) 128 32768 2147483648 9223372036854775808 256 65536 4294967296 18446744073709551616 k
def sgnR (k : IntKind) : Bool := @IntKind.rec (fun _ => Bool) true true true true false false false false k
def wrapF (n : Int) (k : IntKind) : Int := @Int.rec (fun _ => IntKind → Int) (fun n k => @Bool.rec (fun _ => Int) (k.wrap (Int.ofNat n)) (Int.ofNat n) (Nat.blt n (bndR k))) (fun n k => @Bool.rec (fun _ => Int) (k.wrap (Int.negSucc n)) (@Bool.rec (fun _ => Int) (k.wrap (Int.negSucc n)) (Int.negSucc n) (Nat.blt n (bndR k))) (sgnR k)) n k
def addF (x y : Int) : Int := @Int.rec (fun _ => Int → Int) (fun m y => @Int.rec (fun _ => Nat → Int) (fun n m => Int.ofNat (Nat.add m n)) (fun n m => Int.add (Int.ofNat m) (Int.negSucc n)) y m) (fun m y => Int.add (Int.negSucc m) y) x y
def subF (x y : Int) : Int := @Int.rec (fun _ => Int → Int) (fun m y => @Int.rec (fun _ => Nat → Int) (fun n m => @Bool.rec (fun _ => Int) (Int.sub (Int.ofNat m) (Int.ofNat n)) (Int.ofNat (Nat.sub m n)) (Nat.ble n m)) (fun n m => Int.sub (Int.ofNat m) (Int.negSucc n)) y m) (fun m y => Int.sub (Int.negSucc m) y) x y
def ltF (x y : Int) : Bool := @Int.rec (fun _ => Int → Bool) (fun m y => @Int.rec (fun _ => Nat → Bool) (fun n m => Nat.blt m n) (fun _ _ => false) y m) (fun m y => @Int.rec (fun _ => Nat → Bool) (fun _ _ => true) (fun n m => Nat.blt n m) y m) x y
def eqF (x y : Int) : Bool := @Int.rec (fun _ => Int → Bool) (fun m y => @Int.rec (fun _ => Nat → Bool) (fun n m => Nat.beq m n) (fun _ _ => false) y m) (fun m y => @Int.rec (fun _ => Nat → Bool) (fun _ _ => false) (fun n m => Nat.beq m n) y m) x y
def notF (b : Bool) : Bool := @Bool.rec (fun _ => Bool) true false b
def orF (a b : Bool) : Bool := @Bool.rec (fun _ => Bool) b true a
def andF (a b : Bool) : Bool := @Bool.rec (fun _ => Bool) false b a
def eqS (x y : List Nat) : Bool := @List.rec Nat (fun _ => List Nat → Bool) (fun y => @List.rec Nat (fun _ => Bool) true (fun _ _ _ => false) y) (fun a _ ih y => @List.rec Nat (fun _ => (List Nat → Bool) → Nat → Bool) (fun _ _ => false) (fun b l _ ih a => @Bool.rec (fun _ => Bool) false (ih l) (Nat.beq a b)) y ih a) x y
def ltS (x y : List Nat) : Bool := @List.rec Nat (fun _ => List Nat → Bool) (fun y => @List.rec Nat (fun _ => Bool) false (fun _ _ _ => true) y) (fun a _ ih y => @List.rec Nat (fun _ => (List Nat → Bool) → Nat → Bool) (fun _ _ => false) (fun b l _ ih a => @Bool.rec (fun _ => Bool) (@Bool.rec (fun _ => Bool) false (ih l) (Nat.beq a b)) true (Nat.blt a b)) y ih a) x y
def app {α : Type} (x y : List α) : List α := @List.rec α (fun _ => List α → List α) (fun y => y) (fun a _ ih y => a :: ih y) x y
def lenF {α : Type} (x : List α) : Nat := @List.rec α (fun _ => Nat → Nat) (fun n => n) (fun _ _ ih n => ih (Nat.succ n)) x 0
def mapF {α β : Type} (f : α → β) (x : List α) : List β := @List.rec α (fun _ => (α → β) → List β) (fun _ => []) (fun a _ ih f => f a :: ih f) x f
def cut {α : Type} (n : Nat) (l : List α) (k : List α → List α → Bool) : Bool := @Nat.rec (fun _ => List α → (List α → List α → Bool) → Bool) (fun l k => k [] l) (fun _ ih l k => @List.rec α (fun _ => (List α → (List α → List α → Bool) → Bool) → (List α → List α → Bool) → Bool) (fun _ _ => false) (fun a l _ ih k => ih l (fun p q => k (a :: p) q)) l ih k) n l k
def nth {α : Type} (n : Nat) (l : List α) (k : α → Bool) : Bool := @Nat.rec (fun _ => List α → (α → Bool) → Bool) (fun l k => @List.rec α (fun _ => (α → Bool) → Bool) (fun _ => false) (fun a _ _ k => k a) l k) (fun _ ih l k => @List.rec α (fun _ => (List α → (α → Bool) → Bool) → (α → Bool) → Bool) (fun _ _ => false) (fun _ l _ ih k => ih l k) l ih k) n l k
def set1 {α : Type} (n : Nat) (l : List α) (x : α) (k : List α → Bool) : Bool := @Nat.rec (fun _ => List α → (List α → Bool) → Bool) (fun l k => @List.rec α (fun _ => (List α → Bool) → Bool) (fun _ => false) (fun _ l _ k => k (x :: l)) l k) (fun _ ih l k => @List.rec α (fun _ => (List α → (List α → Bool) → Bool) → (List α → Bool) → Bool) (fun _ _ => false) (fun a l _ ih k => ih l (fun q => k (a :: q))) l ih k) n l k
def reps {α : Type} (n : Nat) (l : List α) : List α := @Nat.rec (fun _ => List α → List α) (fun _ => []) (fun _ ih l => app l (ih l)) n l
def cellsOf  (v : AV) (w : AV) : List AV := @AV.rec (fun _ => AV → List AV) (fun _ => PUnit) (fun _ _ w => [w]) (fun _ w => [w]) (fun _ w => [w]) (fun _ _ w => [w]) (fun _ _ _ _ _ w => [w]) (fun _ w => [w]) (fun _ _ _ _ _ w => [w]) (fun _ w => [w]) (fun l _ _ => l) (fun _ _ w => [w]) (fun w => [w]) (fun w => [w]) (fun _ w => [w]) PUnit.unit (fun _ _ _ _ => PUnit.unit) v w
def litOk : Value → Bool
  | .agg _ | .tuple _ => false
  | _ => true
def cell  (v : AV)  : Bool := @AV.rec (fun _ => Bool) (fun _ => PUnit) (fun _ _ => true) (fun _ => true) (fun _ => true) (fun _ _ => true) (fun _ _ _ _ _ => true) (fun _ => true) (fun _ _ _ _ _ => true) (fun _ => true) (fun _ _ => false) (fun _ _ => false) (true) (true) (fun v => litOk v) PUnit.unit (fun _ _ _ _ => PUnit.unit) v 
def okc  (v : AV)  : Bool := @AV.rec (fun _ => Bool) (fun _ => PUnit) (fun _ _ => true) (fun _ => true) (fun _ => true) (fun _ _ => true) (fun _ _ _ _ _ => true) (fun _ => true) (fun _ _ _ _ _ => true) (fun _ => true) (fun _ _ => true) (fun _ _ => true) (true) (true) (fun v => litOk v) PUnit.unit (fun _ _ _ _ => PUnit.unit) v 
def allCell (l : List AV) (k : Bool) : Bool := @List.rec AV (fun _ => Bool → Bool) (fun k => k) (fun a _ ih k => chk (cell a) (ih k)) l k
def hgetT  (v : Id) (t : HeapT) : Option Blk := @Id.rec (fun _ => HeapT → Option Blk) (fun a b c d t => gD d (gD c (gD b (gD a t)))) v t
def hget  (v : Heap) (i : Id) : Option Blk := @Heap.rec (fun _ => Id → Option Blk) (fun _ t i => hgetT i t) v i
def hsetT  (v : Id) (x : Option Blk) (t : HeapT) : HeapT := @Id.rec (fun _ => Option Blk → HeapT → HeapT) (fun a b c d x t => mD a (mD b (mD c (sD d x))) t) v x t
def hset  (v : Heap) (i : Id) (x : Option Blk) : Heap := @Heap.rec (fun _ => Id → Option Blk → Heap) (fun nx t i x => Heap.mk nx (hsetT i x t)) v i x
def succ  (v : Id) (k : Id → Bool) : Bool := @Id.rec (fun _ => (Id → Bool) → Bool) (fun a b c d k => incD d (fun d => k ⟨a, b, c, d⟩) (incD c (fun c => k ⟨a, b, c, .d0⟩) (incD b (fun b => k ⟨a, b, .d0, .d0⟩) (incD a (fun a => k ⟨a, .d0, .d0, .d0⟩) false)))) v k
def alloc  (v : Heap) (x : Blk) (k : Id → Heap → Bool) : Bool := @Heap.rec (fun _ => Blk → (Id → Heap → Bool) → Bool) (fun nx t x k => succ nx (fun n => k nx (Heap.mk n (hsetT nx (some x) t)))) v x k
def atCells (i : Id) (H : Heap) (k : Bool → TypeId → List AV → Bool) : Bool := onSome (hget H i) (fun b => bCells b k)
def atMap (i : Id) (H : Heap) (k : List (AV × AV × Nat) → Nat → Bool) : Bool := onSome (hget H i) (fun b => bMap b k)
def over (off : Nat) (l vs : List AV) (k : List AV → Bool) : Bool := cut off l (fun p q => cut (lenF vs) q (fun _ s => k (app p (app vs s))))
def onBool  (v : AV) (kk : Bool → Bool) : Bool := @AV.rec (fun _ => (Bool → Bool) → Bool) (fun _ => PUnit) (fun _ _ _ => false) (fun b kk => kk b) (fun _ _ => false) (fun _ _ _ => false) (fun _ _ _ _ _ _ => false) (fun _ _ => false) (fun _ _ _ _ _ _ => false) (fun _ _ => false) (fun _ _ _ => false) (fun _ _ _ => false) (fun _ => false) (fun _ => false) (fun _ _ => false) PUnit.unit (fun _ _ _ _ => PUnit.unit) v kk
def ifA  (v : AV) (x : Bool) (y : Bool) : Bool := @AV.rec (fun _ => Bool → Bool → Bool) (fun _ => PUnit) (fun _ _ _ _ => false) (fun b x y => @Bool.rec (fun _ => Bool) y x b) (fun _ _ _ => false) (fun _ _ _ _ => false) (fun _ _ _ _ _ _ _ => false) (fun _ _ _ => false) (fun _ _ _ _ _ _ _ => false) (fun _ _ _ => false) (fun _ _ _ _ => false) (fun _ _ _ _ => false) (fun _ _ => false) (fun _ _ => false) (fun _ _ _ => false) PUnit.unit (fun _ _ _ _ => PUnit.unit) v x y
def strV (s : List Nat) : Value := .string ⟨(s.map UInt8.ofNat).toArray⟩
def ofV0 : Value → AV
  | .int k n => .int k n
  | .bool b => .bool b
  | .string s => .str (s.data.toList.map UInt8.toNat)
  | .pointer none => .nilp
  | .slice none 0 0 => .nils
  | v => .lit v
def ofV1 : Value → AV
  | .agg cs => .agg (cs.toList.map ofV0)
  | v => ofV0 v
def ofV : Value → AV
  | .tuple cs => .tuple (cs.toList.map ofV1)
  | v => ofV1 v
mutual
def toV : AV → Option Value
  | .int k n => some (.int k n)
  | .bool b => some (.bool b)
  | .str s => if s.all (Nat.blt · 256) then some (strV s) else none
  | .nilp => some (.pointer none)
  | .nils => some (.slice none 0 0)
  | .lit v => some v
  | .agg l => match toVs l with | some l => some (.agg l.toArray) | none => none
  | .tuple l => match toVs l with | some l => some (.tuple l.toArray) | none => none
  | _ => none
def toVs : List AV → Option (List Value)
  | [] => some []
  | a :: l => match toV a with
    | some v => match toVs l with | some vs => some (v :: vs) | none => none
    | none => none
end
def pureRun {α : Type} (P : Program) : Sem α → Option α
  | .pure a => some a
  | .program k => pureRun P (k P)
  | .mark _ k => pureRun P k
  | _ => none
def onVal (n : Option Next) (k : AV → Bool) : Bool := match n with
  | some (.value v) => k (ofV v)
  | _ => false
section
variable (P : Program)
def gen1 (x : AV) (s : Value → Sem Value) (k : AV → Bool) : Bool := onSome (toV x) (fun a => onSome (pureRun P (s a)) (fun v => k (ofV v)))
def gen2 (x y : AV) (s : Value → Value → Sem Value) (k : AV → Bool) : Bool := onSome (toV x) (fun a => onSome (toV y) (fun b => onSome (pureRun P (s a b)) (fun v => k (ofV v))))
def gens (xs : List AV) (s : Array Value → Sem Next) (k : AV → Bool) : Bool := onSome (toVs xs) (fun l => onVal (pureRun P (s l.toArray)) k)
def o_mv (d : Dst) (x : Opnd) (_ : CallT) (ih : KO) (r : Regs) (D : Dfr) (H : Heap) : Bool := ih (put d (ov x r) r) D H
def o_pick (d : Dst) (c : Opnd) (x : Opnd) (y : Opnd) (_ : CallT) (ih : KO) (r : Regs) (D : Dfr) (H : Heap) : Bool := ifA (ov c r) (ih (put d (ov x r) r) D H) (ih (put d (ov y r) r) D H)
def o_new (d : Dst) (e : TypeId) (z : List AV) (_ : CallT) (ih : KO) (r : Regs) (D : Dfr) (H : Heap) : Bool := alloc H (.cells true e z) (fun i H => ih (put d (.ptr i 0) r) D H)
def o_box (d : Dst) (e : TypeId) (x : Opnd) (_ : CallT) (ih : KO) (r : Regs) (D : Dfr) (H : Heap) : Bool := chk (okc (ov x r)) (alloc H (.cells true e (cellsOf (ov x r) (ov x r))) (fun i H => ih (put d (.ptr i 0) r) D H))
def bld (ps : List (Nat × Nat × Opnd)) (r : Regs) (z : List AV) (k : List AV → Bool) : Bool := @List.rec (Nat × Nat × Opnd) (fun _ => Regs → List AV → (List AV → Bool) → Bool) (fun _ z k => k z) (fun a _ ih r z k => chk (andF (okc (ov a.2.2 r)) (Nat.beq (lenF (cellsOf (ov a.2.2 r) (ov a.2.2 r))) a.2.1)) (over a.1 z (cellsOf (ov a.2.2 r) (ov a.2.2 r)) (fun z => ih r z k))) ps r z k
def o_build (d : Dst) (z : List AV) (ps : List (Nat × Nat × Opnd)) (_ : CallT) (ih : KO) (r : Regs) (D : Dfr) (H : Heap) : Bool := bld ps r z (fun z => ih (put d (.agg z) r) D H)
def o_bslice (d : Dst) (e : TypeId) (z : List AV) (len : Nat) (ps : List (Nat × Nat × Opnd)) (_ : CallT) (ih : KO) (r : Regs) (D : Dfr) (H : Heap) : Bool := bld ps r (reps len z) (fun z => alloc H (.cells true e z) (fun i H => ih (put d (.slice i 0 len 0 len) r) D H))
def o_ld (d : Dst) (x : Opnd) (_ : CallT) (ih : KO) (r : Regs) (D : Dfr) (H : Heap) : Bool := onPtr (ov x r) (fun i off => atCells i H (fun _ _ l => nth off l (fun v => ih (put d v r) D H)))
def o_ldn (d : Dst) (x : Opnd) (n : Nat) (_ : CallT) (ih : KO) (r : Regs) (D : Dfr) (H : Heap) : Bool := onPtr (ov x r) (fun i off => atCells i H (fun _ _ l => cut off l (fun _ q => cut n q (fun c _ => ih (put d (.agg c) r) D H))))
def o_stn (d : Dst) (x : Opnd) (y : Opnd) (n : Nat) (_ : CallT) (ih : KO) (r : Regs) (D : Dfr) (H : Heap) : Bool := onPtr (ov x r) (fun i off => chk (Nat.beq (lenF (cellsOf (ov y r) (ov y r))) n) (allCell (cellsOf (ov y r) (ov y r)) (atCells i H (fun ex e l => over off l (cellsOf (ov y r) (ov y r)) (fun l => ih (put d (AV.tuple []) r) D (hset H i (some (.cells ex e l))))))))
def o_st (d : Dst) (x : Opnd) (y : Opnd) (_ : CallT) (ih : KO) (r : Regs) (D : Dfr) (H : Heap) : Bool := onPtr (ov x r) (fun i off => chk (cell (ov y r)) (atCells i H (fun ex e l => set1 off l (ov y r) (fun l => ih (put d (AV.tuple []) r) D (hset H i (some (.cells ex e l)))))))
def nnil  (v : AV)  : Bool := @AV.rec (fun _ => Bool) (fun _ => PUnit) (fun _ _ => false) (fun _ => false) (fun _ => false) (fun _ _ => true) (fun _ _ _ _ _ => true) (fun _ => true) (fun _ _ _ _ _ => true) (fun _ => true) (fun _ _ => false) (fun _ _ => false) (false) (false) (fun _ => false) PUnit.unit (fun _ _ _ _ => PUnit.unit) v 
def o_nilck (d : Dst) (x : Opnd) (_ : CallT) (ih : KO) (r : Regs) (D : Dfr) (H : Heap) : Bool := chk (nnil (ov x r)) (ih (put d (ov x r) r) D H)
def bint  (v : BF) (k : IntKind) (m : Int) (n : Int) (K : AV → Bool) : Bool := @BF.rec (fun _ => IntKind → Int → Int → (AV → Bool) → Bool) (fun k m n K => forceI (wrapF (addF m n) k) (fun z => K (AV.int k z))) (fun k m n K => forceI (wrapF (subF m n) k) (fun z => K (AV.int k z))) (fun k m n K => forceI (wrapF (Int.mul m n) k) (fun z => K (AV.int k z))) (fun k m n K => onSome (pureRun P (Op.intDiv .quo k m n)) (fun v => K (ofV v))) (fun k m n K => onSome (pureRun P (Op.intDiv .rem k m n)) (fun v => K (ofV v))) (fun k m n K => onSome (pureRun P (Op.intBits .and k m n)) (fun v => K (ofV v))) (fun k m n K => onSome (pureRun P (Op.intBits .or k m n)) (fun v => K (ofV v))) (fun k m n K => onSome (pureRun P (Op.intBits .xor k m n)) (fun v => K (ofV v))) (fun k m n K => onSome (pureRun P (Op.intBits .andNot k m n)) (fun v => K (ofV v))) (fun k m n K => onSome (pureRun P (Op.shift .shl k m k n)) (fun v => K (ofV v))) (fun k m n K => onSome (pureRun P (Op.shift .shr k m k n)) (fun v => K (ofV v))) (fun _ m n K => K (AV.bool (eqF m n))) (fun _ m n K => K (AV.bool (notF (eqF m n)))) (fun _ m n K => K (AV.bool (ltF m n))) (fun _ m n K => K (AV.bool (notF (ltF n m)))) (fun _ m n K => K (AV.bool (ltF n m))) (fun _ m n K => K (AV.bool (notF (ltF m n)))) v k m n K
def bstr  (v : BF) (s : List Nat) (t : List Nat) (K : AV → Bool) : Bool := @BF.rec (fun _ => List Nat → List Nat → (AV → Bool) → Bool) (fun s t K => chk (Nat.blt (lenF (app s t)) 4611686018427387904) (K (AV.str (app s t)))) (fun _ _ _ => false) (fun _ _ _ => false) (fun _ _ _ => false) (fun _ _ _ => false) (fun _ _ _ => false) (fun _ _ _ => false) (fun _ _ _ => false) (fun _ _ _ => false) (fun _ _ _ => false) (fun _ _ _ => false) (fun s t K => K (AV.bool (eqS s t))) (fun s t K => K (AV.bool (notF (eqS s t)))) (fun s t K => K (AV.bool (ltS s t))) (fun s t K => K (AV.bool (orF (ltS s t) (eqS s t)))) (fun s t K => K (AV.bool (notF (orF (ltS s t) (eqS s t))))) (fun s t K => K (AV.bool (notF (ltS s t)))) v s t K
def isShift : BF → Bool
  | .shl | .shr => true
  | _ => false
def kn (k : IntKind) : Nat := @IntKind.rec (fun _ => Nat) 0 1 2 3 4 5 6 7 k
def eqK (a b : IntKind) : Bool := Nat.beq (kn a) (kn b)
def shiftF  (v : BF)  : Bool := @BF.rec (fun _ => Bool) (false) (false) (false) (false) (false) (false) (false) (false) (false) (true) (true) (false) (false) (false) (false) (false) (false) v 
def binII (f : BF) (k : IntKind) (m : Int) (j : IntKind) (n : Int) (K : AV → Bool) : Bool := chk (orF (eqK k j) (shiftF f)) (bint P f k m n K)
def binV (f : BF) (x y : AV) (K : AV → Bool) : Bool := @AV.rec (fun _ => BF → AV → (AV → Bool) → Bool) (fun _ => PUnit) (fun k m f y K => onInt y (fun j n => binII P f k m j n K)) (fun _ _ _ _ => false) (fun s f y K => onStr y (fun t => bstr f s t K)) (fun _ _ _ _ _ => false) (fun _ _ _ _ _ _ _ _ => false) (fun _ _ _ _ => false) (fun _ _ _ _ _ _ _ _ => false) (fun _ _ _ _ => false) (fun _ _ _ _ _ => false) (fun _ _ _ _ _ => false) (fun _ _ _ => false) (fun _ _ _ => false) (fun _ _ _ _ => false) PUnit.unit (fun _ _ _ _ => PUnit.unit) x f y K
def o_bin (f : BF) (d : Dst) (x : Opnd) (y : Opnd) (_ : CallT) (ih : KO) (r : Regs) (D : Dfr) (H : Heap) : Bool := binV P f (ov x r) (ov y r) (fun v => ih (put d v r) D H)
def o_gbin (op : BinOp) (t : TypeId) (x0 : Operand) (y0 : Operand) (d : Dst) (x : Opnd) (y : Opnd) (_ : CallT) (ih : KO) (r : Regs) (D : Dfr) (H : Heap) : Bool := gen2 P (ov x r) (ov y r) (fun a b => do eqGuard op t x0 y0 a b; binOp op t a b) (fun v => ih (put d v r) D H)
def eqId (i j : Id) : Bool := Nat.beq i.toNat j.toNat
def isNilp  (v : AV) (K : Bool → Bool) : Bool := @AV.rec (fun _ => (Bool → Bool) → Bool) (fun _ => PUnit) (fun _ _ _ => false) (fun _ _ => false) (fun _ _ => false) (fun _ _ K => K false) (fun _ _ _ _ _ _ => false) (fun _ _ => false) (fun _ _ _ _ _ _ => false) (fun _ _ => false) (fun _ _ _ => false) (fun _ _ _ => false) (fun K => K true) (fun _ => false) (fun _ _ => false) PUnit.unit (fun _ _ _ _ => PUnit.unit) v K
def peqP (v : AV) (i : Id) (off : Nat) (K : Bool → Bool) : Bool := @AV.rec (fun _ => Id → Nat → (Bool → Bool) → Bool) (fun _ => PUnit) (fun _ _ _ _ _ => false) (fun _ _ _ _ => false) (fun _ _ _ _ => false) (fun j o i off K => chk (eqId i j) (K (Nat.beq off o))) (fun _ _ _ _ _ _ _ _ => false) (fun _ _ _ _ => false) (fun _ _ _ _ _ _ _ _ => false) (fun _ _ _ _ => false) (fun _ _ _ _ _ => false) (fun _ _ _ _ _ => false) (fun _ _ K => K false) (fun _ _ _ => false) (fun _ _ _ _ => false) PUnit.unit (fun _ _ _ _ => PUnit.unit) v i off K
def peqV  (v : AV) (w : AV) (K : Bool → Bool) : Bool := @AV.rec (fun _ => AV → (Bool → Bool) → Bool) (fun _ => PUnit) (fun _ _ _ _ => false) (fun _ _ _ => false) (fun _ _ _ => false) (fun i off w K => peqP w i off K) (fun _ _ _ _ _ _ _ => false) (fun _ _ _ => false) (fun _ _ _ _ _ _ _ => false) (fun _ _ _ => false) (fun _ _ _ _ => false) (fun _ _ _ _ => false) (fun w K => isNilp w K) (fun _ _ => false) (fun _ _ _ => false) PUnit.unit (fun _ _ _ _ => PUnit.unit) v w K
def litNil (tk : Nat) : Value → Bool
  | .nilFunc => Nat.beq tk 1
  | .map none => Nat.beq tk 2
  | _ => false
def nilOf  (v : AV) (tk : Nat) (K : Bool → Bool) : Bool := @AV.rec (fun _ => Nat → (Bool → Bool) → Bool) (fun _ => PUnit) (fun _ _ _ _ => false) (fun _ _ _ => false) (fun _ _ _ => false) (fun _ _ _ _ => false) (fun _ _ _ _ _ tk K => chk (Nat.beq tk 0) (K false)) (fun _ tk K => chk (Nat.beq tk 2) (K false)) (fun _ _ _ _ _ tk K => chk (Nat.beq tk 1) (K false)) (fun _ tk K => chk (Nat.beq tk 1) (K false)) (fun _ _ _ _ => false) (fun _ _ _ _ => false) (fun _ _ => false) (fun tk K => chk (Nat.beq tk 0) (K true)) (fun v tk K => chk (litNil tk v) (K true)) PUnit.unit (fun _ _ _ _ => PUnit.unit) v tk K
def o_peq (neg : Bool) (d : Dst) (x : Opnd) (y : Opnd) (_ : CallT) (ih : KO) (r : Regs) (D : Dfr) (H : Heap) : Bool := peqV (ov x r) (ov y r) (fun b => ih (put d (.bool (@Bool.rec (fun _ => Bool) b (notF b) neg)) r) D H)
def o_neq0 (tk : Nat) (neg : Bool) (d : Dst) (x : Opnd) (y : Opnd) (_ : CallT) (ih : KO) (r : Regs) (D : Dfr) (H : Heap) : Bool := nilOf (ov x r) tk (fun b => nilOf (ov y r) tk (fun c => chk (orF b c) (ih (put d (.bool (@Bool.rec (fun _ => Bool) (andF b c) (notF (andF b c)) neg)) r) D H)))
def o_not (d : Dst) (x : Opnd) (_ : CallT) (ih : KO) (r : Regs) (D : Dfr) (H : Heap) : Bool := onBool (ov x r) (fun b => ih (put d (.bool (notF b)) r) D H)
def o_gun (op : UnOp) (d : Dst) (x : Opnd) (_ : CallT) (ih : KO) (r : Regs) (D : Dfr) (H : Heap) : Bool := gen1 P (ov x r) (fun a => Op.unary op a) (fun v => ih (put d v r) D H)
def o_cvi (k : IntKind) (d : Dst) (x : Opnd) (_ : CallT) (ih : KO) (r : Regs) (D : Dfr) (H : Heap) : Bool := onInt (ov x r) (fun _ n => forceI (wrapF n k) (fun n => ih (put d (.int k n) r) D H))
def o_cvp (d : Dst) (x : Opnd) (_ : CallT) (ih : KO) (r : Regs) (D : Dfr) (H : Heap) : Bool := onPtr (ov x r) (fun i off => atCells i H (fun _ _ l => nth off l (fun _ => ih (put d (.ptr i off) r) D H)))
def o_cvp2 (u : TypeId) (d : Dst) (x : Opnd) (_ : CallT) (ih : KO) (r : Regs) (D : Dfr) (H : Heap) : Bool := onPtr (ov x r) (fun i off => atCells i H (fun ex e l => chk (andF ex (liesAt P P.depth e (lenF l / P.cellsOf e) off u 1)) (ih (put d (.ptr i off) r) D H)))
def onNat  (v : Int) (k : Nat → Bool) : Bool := @Int.rec (fun _ => (Nat → Bool) → Bool) (fun n k => k n) (fun _ _ => false) v k
def bytes (l : List AV) (k : List Nat → Bool) : Bool := @List.rec AV (fun _ => (List Nat → Bool) → Bool) (fun k => k []) (fun a _ ih k => onInt a (fun j n => chk (eqK j .u8) (onNat n (fun n => chk (Nat.blt n 256) (ih (fun s => k (n :: s))))))) l k
def byteV (n : Nat) : AV := .int .u8 (Int.ofNat n)
def bytesOf  (v : AV) (H : Heap) (k : List Nat → Bool) : Bool := @AV.rec (fun _ => Heap → (List Nat → Bool) → Bool) (fun _ => PUnit) (fun _ _ _ _ => false) (fun _ _ _ => false) (fun _ _ _ => false) (fun _ _ _ _ => false) (fun i off len _ _ H k => atCells i H (fun _ _ l => cut off l (fun _ q => cut len q (fun c _ => bytes c k)))) (fun _ _ _ => false) (fun _ _ _ _ _ _ _ => false) (fun _ _ _ => false) (fun _ _ _ _ => false) (fun _ _ _ _ => false) (fun _ _ => false) (fun _ k => k []) (fun _ _ _ => false) PUnit.unit (fun _ _ _ _ => PUnit.unit) v H k
def o_cvbs (d : Dst) (x : Opnd) (_ : CallT) (ih : KO) (r : Regs) (D : Dfr) (H : Heap) : Bool := bytesOf (ov x r) H (fun s => ih (put d (.str s) r) D H)
def o_cvsb (e : TypeId) (d : Dst) (x : Opnd) (_ : CallT) (ih : KO) (r : Regs) (D : Dfr) (H : Heap) : Bool := onStr (ov x r) (fun s => alloc H (.cells false e (mapF byteV s)) (fun i H => ih (put d (.slice i 0 (lenF s) 2 0) r) D H))
def o_gcv (s : TypeId) (t : TypeId) (d : Dst) (x : Opnd) (_ : CallT) (ih : KO) (r : Regs) (D : Dfr) (H : Heap) : Bool := gen1 P (ov x r) (fun a => convert s t a) (fun v => ih (put d v r) D H)
def ovs (xs : List Opnd) (r : Regs) : List AV := mapF (fun x => ov x r) xs
def o_mkf (d : Dst) (f : Fid) (first : List Opnd) (captured : List Opnd) (_ : CallT) (ih : KO) (r : Regs) (D : Dfr) (H : Heap) : Bool := ih (put d (.func f (ovs first r) (ovs captured r)) r) D H
def optI  (v : Option Opnd) (r : Regs) (k : Bool) : Bool := @Option.rec Opnd (fun _ => Regs → Bool → Bool) (fun _ k => k) (fun x r k => onInt (ov x r) (fun _ _ => k)) v r k
def o_mkmap (d : Dst) (h : Option Opnd) (_ : CallT) (ih : KO) (r : Regs) (D : Dfr) (H : Heap) : Bool := optI h r (alloc H (.map [] 0) (fun i H => ih (put d (.map i) r) D H))
def o_mkslice (d : Dst) (e : TypeId) (z : List AV) (l : Opnd) (c : Opnd) (_ : CallT) (ih : KO) (r : Regs) (D : Dfr) (H : Heap) : Bool := onInt (ov l r) (fun _ l => onInt (ov c r) (fun _ c => onNat l (fun l => onNat c (fun c => chk (Nat.ble l c) (chk (Nat.blt c 1048576) (alloc H (.cells true e (reps c z)) (fun i H => ih (put d (.slice i 0 l 0 c) r) D H)))))))
def bound  (v : Option Opnd) (r : Regs) (n : Nat) (k : Nat → Bool) : Bool := @Option.rec Opnd (fun _ => Regs → Nat → (Nat → Bool) → Bool) (fun _ n k => k n) (fun x r n k => onInt (ov x r) (fun _ n => onNat n k)) v r n k
def boundM  (v : Option Opnd) (r : Regs) (k : Option Nat → Bool) : Bool := @Option.rec Opnd (fun _ => Regs → (Option Nat → Bool) → Bool) (fun _ k => k none) (fun x r k => onInt (ov x r) (fun _ n => onNat n (fun n => k (some n)))) v r k
def sliceM  (v : Option Nat) (i : Id) (off : Nat) (len : Nat) (q : Nat) (cap : Nat) (s : Nat) (l : Nat) (h : Nat) (k : AV → Bool) : Bool := @Option.rec Nat (fun _ => Id → Nat → Nat → Nat → Nat → Nat → Nat → Nat → (AV → Bool) → Bool) (fun i off len q cap s l h k => ifB (Nat.beq l 0) (k (.slice i off h q cap)) (ifB (orF (Nat.beq l len) (notF (Nat.beq q (Nat.succ s)))) false (forceN (Nat.sub h l) (fun n => forceN (Nat.add off (Nat.mul l s)) (fun o => forceN (Nat.add cap l) (fun c => k (.slice i o n q c))))))) (fun x i off len _ _ s l h k => chk (Nat.ble x len) (chk (Nat.ble h x) (forceN (Nat.sub h l) (fun n => forceN (Nat.sub x l) (fun c => forceN (@Bool.rec (fun _ => Nat) (Nat.add off (Nat.mul l s)) (off) (Nat.beq x l)) (fun o => k (.slice i o n 0 c))))))) v i off len q cap s l h k
def sliceE  (v : Option Nat) (i : Id) (off : Nat) (cap : Nat) (s : Nat) (l : Nat) (h : Nat) (k : AV → Bool) : Bool := @Option.rec Nat (fun _ => Id → Nat → Nat → Nat → Nat → Nat → (AV → Bool) → Bool) (fun i off cap s l h k => chk (Nat.ble h cap) (forceN (Nat.sub h l) (fun n => forceN (Nat.sub cap l) (fun c => forceN (@Bool.rec (fun _ => Nat) (Nat.add off (Nat.mul l s)) (off) (Nat.beq cap l)) (fun o => k (.slice i o n 0 c)))))) (fun x i off cap s l h k => chk (Nat.ble x cap) (chk (Nat.ble h x) (forceN (Nat.sub h l) (fun n => forceN (Nat.sub x l) (fun c => forceN (@Bool.rec (fun _ => Nat) (Nat.add off (Nat.mul l s)) (off) (Nat.beq x l)) (fun o => k (.slice i o n 0 c))))))) v i off cap s l h k
def sliceV (i : Id) (off len q cap s l h : Nat) (m : Option Nat) (k : AV → Bool) : Bool := chk (Nat.ble l h) (ifB (Nat.beq q 0) (sliceE m i off cap s l h k) (chk (Nat.ble h len) (sliceM m i off len q cap s l h k)))
def noneOr0  (v : Option Nat) (k : Bool) : Bool := @Option.rec Nat (fun _ => Bool → Bool) (fun k => k) (fun x k => chk (Nat.beq x 0) (k)) v k
def slcA  (v : AV) (s : Nat) (lo : Option Opnd) (hi : Option Opnd) (mx : Option Opnd) (r : Regs) (k : AV → Bool) : Bool := @AV.rec (fun _ => Nat → Option Opnd → Option Opnd → Option Opnd → Regs → (AV → Bool) → Bool) (fun _ => PUnit) (fun _ _ _ _ _ _ _ _ => false) (fun _ _ _ _ _ _ _ => false) (fun _ _ _ _ _ _ _ => false) (fun _ _ _ _ _ _ _ _ => false) (fun i off len ex cap s lo hi mx r k => bound lo r 0 (fun l => bound hi r len (fun h => boundM mx r (fun m => sliceV i off len ex cap s l h m k)))) (fun _ _ _ _ _ _ _ => false) (fun _ _ _ _ _ _ _ _ _ _ _ => false) (fun _ _ _ _ _ _ _ => false) (fun _ _ _ _ _ _ _ _ => false) (fun _ _ _ _ _ _ _ _ => false) (fun _ _ _ _ _ _ => false) (fun _ lo hi mx r k => bound lo r 0 (fun l => bound hi r 0 (fun h => boundM mx r (fun m => chk (Nat.beq l 0) (chk (Nat.beq h 0) (noneOr0 m (k .nils))))))) (fun _ _ _ _ _ _ _ => false) PUnit.unit (fun _ _ _ _ => PUnit.unit) v s lo hi mx r k
def o_slc (d : Dst) (s : Nat) (x : Opnd) (lo : Option Opnd) (hi : Option Opnd) (mx : Option Opnd) (_ : CallT) (ih : KO) (r : Regs) (D : Dfr) (H : Heap) : Bool := slcA (ov x r) s lo hi mx r (fun v => ih (put d v r) D H)
def o_slca (d : Dst) (s : Nat) (n : Nat) (x : Opnd) (lo : Option Opnd) (hi : Option Opnd) (mx : Option Opnd) (_ : CallT) (ih : KO) (r : Regs) (D : Dfr) (H : Heap) : Bool := onPtr (ov x r) (fun i off => bound lo r 0 (fun l => bound hi r n (fun h => boundM mx r (fun m => sliceV i off n 0 n s l h m (fun v => ih (put d v r) D H)))))
def o_slcs (d : Dst) (x : Opnd) (lo : Option Opnd) (hi : Option Opnd) (_ : CallT) (ih : KO) (r : Regs) (D : Dfr) (H : Heap) : Bool := onStr (ov x r) (fun s => bound lo r 0 (fun l => bound hi r (lenF s) (fun h => chk (Nat.ble l h) (cut h s (fun p _ => cut l p (fun _ q => ih (put d (.str q) r) D H))))))
def o_fa (d : Dst) (x : Opnd) (off : Nat) (_ : CallT) (ih : KO) (r : Regs) (D : Dfr) (H : Heap) : Bool := onPtr (ov x r) (fun i o => forceN (Nat.add o off) (fun o => ih (put d (.ptr i o) r) D H))
def o_fld (d : Dst) (x : Opnd) (off : Nat) (_ : CallT) (ih : KO) (r : Regs) (D : Dfr) (H : Heap) : Bool := onAgg (ov x r) (fun l => nth off l (fun v => ih (put d v r) D H))
def o_fldn (d : Dst) (x : Opnd) (off : Nat) (n : Nat) (_ : CallT) (ih : KO) (r : Regs) (D : Dfr) (H : Heap) : Bool := onAgg (ov x r) (fun l => cut off l (fun _ q => cut n q (fun c _ => ih (put d (.agg c) r) D H)))
def o_ia (d : Dst) (x : Opnd) (i : Opnd) (s : Nat) (_ : CallT) (ih : KO) (r : Regs) (D : Dfr) (H : Heap) : Bool := onInt (ov i r) (fun _ z => onNat z (fun z => onSlice (ov x r) (fun i off len _ _ => chk (Nat.blt z len) (forceN (Nat.add off (Nat.mul z s)) (fun o => ih (put d (.ptr i o) r) D H)))))
def o_iaa (d : Dst) (x : Opnd) (i : Opnd) (s : Nat) (n : Nat) (_ : CallT) (ih : KO) (r : Regs) (D : Dfr) (H : Heap) : Bool := onInt (ov i r) (fun _ z => onNat z (fun z => onPtr (ov x r) (fun i off => chk (Nat.blt z n) (forceN (Nat.add off (Nat.mul z s)) (fun o => ih (put d (.ptr i o) r) D H)))))
def o_idx (d : Dst) (x : Opnd) (i : Opnd) (_ : CallT) (ih : KO) (r : Regs) (D : Dfr) (H : Heap) : Bool := onInt (ov i r) (fun _ z => onNat z (fun z => onStr (ov x r) (fun s => nth z s (fun b => ih (put d (byteV b) r) D H))))
def o_gidx (t : TypeId) (d : Dst) (x : Opnd) (i : Opnd) (_ : CallT) (ih : KO) (r : Regs) (D : Dfr) (H : Heap) : Bool := gen2 P (ov x r) (ov i r) (fun a b => Instr.index t a b) (fun v => ih (put d v r) D H)
def genKey (kt : TypeId) (a b : AV) (k : Bool → Bool) : Bool := onSome (toV a) (fun a => onSome (toV b) (fun b => onSome (pureRun P (Op.equal kt a b)) k))
def keyEq (kk : Nat) (kt : TypeId) (a b : AV) (K : Bool → Bool) : Bool := @AV.rec (fun _ => Nat → TypeId → AV → AV → (Bool → Bool) → Bool) (fun _ => PUnit) (fun k n kk _ _ b K => chk (Nat.beq kk 0) (onInt b (fun j m => chk (eqK k j) (K (eqF n m))))) (fun _ _ kt a b K => genKey P kt a b K) (fun s kk _ _ b K => chk (Nat.beq kk 1) (onStr b (fun t => K (eqS s t)))) (fun _ _ _ kt a b K => genKey P kt a b K) (fun _ _ _ _ _ _ kt a b K => genKey P kt a b K) (fun _ _ kt a b K => genKey P kt a b K) (fun _ _ _ _ _ _ kt a b K => genKey P kt a b K) (fun _ _ kt a b K => genKey P kt a b K) (fun _ _ _ kt a b K => genKey P kt a b K) (fun _ _ _ kt a b K => genKey P kt a b K) (fun _ kt a b K => genKey P kt a b K) (fun _ kt a b K => genKey P kt a b K) (fun _ _ kt a b K => genKey P kt a b K) PUnit.unit (fun _ _ _ _ => PUnit.unit) a kk kt a b K
def mfind (kk : Nat) (kt : TypeId) (a : AV) (es : List (AV × AV × Nat)) (k : Option (AV × AV × Nat) → Bool) : Bool := @List.rec (AV × AV × Nat) (fun _ => Nat → TypeId → AV → (Option (AV × AV × Nat) → Bool) → Bool) (fun _ _ _ k => k none) (fun e _ ih kk kt a k => keyEq P kk kt a e.1 (fun b => @Bool.rec (fun _ => Bool) (ih kk kt a k) (k (some e)) b)) es kk kt a k
def sameKeyB (a b : AV) : Bool := match toV a, toV b with | some a, some b => Instr.sameBits 10000 a b | _, _ => false
def simpleKey  (v : AV) (kk : Nat) : Bool := @AV.rec (fun _ => Nat → Bool) (fun _ => PUnit) (fun _ _ kk => Nat.beq kk 0) (fun _ _ => false) (fun _ kk => Nat.beq kk 1) (fun _ _ _ => false) (fun _ _ _ _ _ _ => false) (fun _ _ => false) (fun _ _ _ _ _ _ => false) (fun _ _ => false) (fun _ _ _ => false) (fun _ _ _ => false) (fun _ => false) (fun _ => false) (fun _ _ => false) PUnit.unit (fun _ _ _ _ => PUnit.unit) v kk
def sameKey (kk : Nat) (a b : AV) : Bool := orF (simpleKey b kk) (sameKeyB a b)
def mput (kk : Nat) (kt : TypeId) (a v : AV) (es : List (AV × AV × Nat)) (k : Option (AV × AV × Nat) → List (AV × AV × Nat) → Bool) : Bool := @List.rec (AV × AV × Nat) (fun _ => Nat → TypeId → AV → AV → (Option (AV × AV × Nat) → List (AV × AV × Nat) → Bool) → Bool) (fun _ _ _ _ k => k none []) (fun e es ih kk kt a v k => keyEq P kk kt a e.1 (fun b => @Bool.rec (fun _ => Bool) (ih kk kt a v (fun x l => k x (e :: l))) (chk (sameKey kk e.1 a) (k (some e) ((a, v, e.2.2) :: es))) b)) es kk kt a v k
def keyOk (kt : TypeId) (empty : Bool) (a : AV) : Bool := match toV a with | some v => (match pureRun P (Instr.checkKey empty 10000 kt v) with | some _ => true | none => false) | none => false
def isEmp  (v : List (AV × AV × Nat))  : Bool := @List.rec (AV × AV × Nat) (fun _ => Bool) (true) (fun _ _ _ => false) v 
def keyMay (kk : Nat) (kt : TypeId) (es : List (AV × AV × Nat)) (a : AV) : Bool := orF (simpleKey a kk) (keyOk P kt (isEmp es) a)
def keyMayF (kk : Nat) (kt : TypeId) (a : AV) : Bool := orF (simpleKey a kk) (keyOk P kt false a)
def litNilMap : Value → Bool
  | .map none => true
  | _ => false
def esOf  (v : AV) (H : Heap) (k : List (AV × AV × Nat) → Bool) : Bool := @AV.rec (fun _ => Heap → (List (AV × AV × Nat) → Bool) → Bool) (fun _ => PUnit) (fun _ _ _ _ => false) (fun _ _ _ => false) (fun _ _ _ => false) (fun _ _ _ _ => false) (fun _ _ _ _ _ _ _ => false) (fun i H k => atMap i H (fun es _ => k es)) (fun _ _ _ _ _ _ _ => false) (fun _ _ _ => false) (fun _ _ _ _ => false) (fun _ _ _ _ => false) (fun _ _ => false) (fun _ _ => false) (fun v _ k => chk (litNilMap v) (k [])) PUnit.unit (fun _ _ _ _ => PUnit.unit) v H k
def lkK  (v : Option (AV × AV × Nat)) (z : AV) (ok : Bool) (k : AV → Bool) : Bool := @Option.rec (AV × AV × Nat) (fun _ => AV → Bool → (AV → Bool) → Bool) (fun z ok k => k (@Bool.rec (fun _ => AV) (z) (.tuple [z, .bool false]) ok)) (fun x _ ok k => k (@Bool.rec (fun _ => AV) (x.2.1) (.tuple [x.2.1, .bool true]) ok)) v z ok k
def o_lookup (kk : Nat) (kt : TypeId) (z : AV) (ok : Bool) (d : Dst) (x : Opnd) (k : Opnd) (_ : CallT) (ih : KO) (r : Regs) (D : Dfr) (H : Heap) : Bool := esOf (ov x r) H (fun es => chk (keyMay P kk kt es (ov k r)) (mfind P kk kt (ov k r) es (fun m => lkK m z ok (fun v => ih (put d v r) D H))))
def mpK (m : Option (AV × AV × Nat)) (a v : AV) (l : List (AV × AV × Nat)) (c : Nat) (k : List (AV × AV × Nat) → Nat → Bool) : Bool := @Option.rec (AV × AV × Nat) (fun _ => AV → AV → List (AV × AV × Nat) → Nat → (List (AV × AV × Nat) → Nat → Bool) → Bool) (fun a v l c k => forceN (Nat.succ c) (fun c2 => k (app l [(a, v, c)]) c2)) (fun _ _ _ l c k => k l c) m a v l c k
def o_mupd (kk : Nat) (kt : TypeId) (d : Dst) (x : Opnd) (k : Opnd) (v : Opnd) (_ : CallT) (ih : KO) (r : Regs) (D : Dfr) (H : Heap) : Bool := onMap (ov x r) (fun i => atMap i H (fun es c => chk (keyMayF P kk kt (ov k r)) (mput P kk kt (ov k r) (ov v r) es (fun m l => mpK m (ov k r) (ov v r) l c (fun l c => ih (put d (AV.tuple []) r) D (hset H i (some (.map l c))))))))
def meK  (v : Option (AV × AV × Nat)) (z : AV) (c : Nat) (k : AV → Nat → Bool) : Bool := @Option.rec (AV × AV × Nat) (fun _ => AV → Nat → (AV → Nat → Bool) → Bool) (fun z c k => k z c) (fun x _ _ k => k x.2.1 x.2.2) v z c k
def o_mentry (kk : Nat) (kt : TypeId) (z : AV) (d : Dst) (x : Opnd) (k : Opnd) (_ : CallT) (ih : KO) (r : Regs) (D : Dfr) (H : Heap) : Bool := onMap (ov x r) (fun i => atMap i H (fun es c => chk (keyMayF P kk kt (ov k r)) (mfind P kk kt (ov k r) es (fun f => meK f z c (fun u s => mput P kk kt (ov k r) u es (fun m l => mpK m (ov k r) z l c (fun l c => ih (put d (.tuple [u, .int .i64 (Int.ofNat s)]) r) D (hset H i (some (.map l c))))))))))
def esPut (s : Nat) (v : AV) (es : List (AV × AV × Nat)) (k : List (AV × AV × Nat) → Bool) : Bool := @List.rec (AV × AV × Nat) (fun _ => Nat → AV → (List (AV × AV × Nat) → Bool) → Bool) (fun _ _ _ => false) (fun e es ih s v k => @Bool.rec (fun _ => Bool) (ih s v (fun l => k (e :: l))) (k ((e.1, v, e.2.2) :: es)) (Nat.beq e.2.2 s)) es s v k
def o_estore (d : Dst) (x : Opnd) (s : Opnd) (v : Opnd) (_ : CallT) (ih : KO) (r : Regs) (D : Dfr) (H : Heap) : Bool := onInt (ov s r) (fun _ n => onNat n (fun n => onMap (ov x r) (fun i => atMap i H (fun es c => esPut n (ov v r) es (fun l => ih (put d (AV.tuple []) r) D (hset H i (some (.map l c))))))))
def o_rngs (d : Dst) (x : Opnd) (_ : CallT) (ih : KO) (r : Regs) (D : Dfr) (H : Heap) : Bool := onStr (ov x r) (fun s => alloc H (.siter s 0) (fun i H => ih (put d (.ptr i 0) r) D H))
def o_rngm (d : Dst) (x : Opnd) (_ : CallT) (ih : KO) (r : Regs) (D : Dfr) (H : Heap) : Bool := onMap (ov x r) (fun m => atMap m H (fun _ c => alloc H (.iter m c [] c) (fun i H => ih (put d (.ptr i 0) r) D H)))
def decU (s : List Nat) (pos : Nat) : Nat × Nat := let r := Utf8.decode ⟨(s.map UInt8.ofNat).toArray⟩ pos; (r.1, r.2)
def o_nxs (d : Dst) (x : Opnd) (_ : CallT) (ih : KO) (r : Regs) (D : Dfr) (H : Heap) : Bool := onPtr (ov x r) (fun i off => onSome (hget H i) (fun b => bSiter b (fun s pos => chk (Nat.beq off 0) (ifB (Nat.blt pos (lenF s)) (forceN (Nat.add pos (decU s pos).2) (fun q => ih (put d (.tuple [.bool true, .int .i64 (Int.ofNat pos), .int .i32 (Int.ofNat (decU s pos).1)]) r) D (hset H i (some (.siter s q))))) (ih (put d (.tuple [.bool false]) r) D H)))))
def hasN (n : Nat) (l : List Nat) : Bool := @List.rec Nat (fun _ => Nat → Bool) (fun _ => false) (fun a _ ih n => orF (Nat.beq a n) (ih n)) l n
def unseen (seen : List Nat) (es : List (AV × AV × Nat)) : List (AV × AV × Nat) := @List.rec (AV × AV × Nat) (fun _ => List Nat → List (AV × AV × Nat)) (fun _ => []) (fun e _ ih seen => @Bool.rec (fun _ => List (AV × AV × Nat)) (e :: ih seen) (ih seen) (hasN e.2.2 seen)) es seen
def allGe (last : Nat) (es : List (AV × AV × Nat)) : Bool := @List.rec (AV × AV × Nat) (fun _ => Nat → Bool) (fun _ => true) (fun e _ ih n => andF (Nat.ble n e.2.2) (ih n)) es last
def one  (v : List (AV × AV × Nat)) (k0 : Bool) (k1 : (AV × AV × Nat) → Bool) : Bool := @List.rec (AV × AV × Nat) (fun _ => Bool → ((AV × AV × Nat) → Bool) → Bool) (fun k0 _ => k0) (fun a l _ _ k1 => chk (isEmp l) (k1 a)) v k0 k1
def empN  (v : List Nat)  : Bool := @List.rec Nat (fun _ => Bool) (true) (fun _ _ _ => false) v 
def o_nxm (d : Dst) (x : Opnd) (_ : CallT) (ih : KO) (r : Regs) (D : Dfr) (H : Heap) : Bool := onPtr (ov x r) (fun i off => onSome (hget H i) (fun b => bIter b (fun m since seen last => chk (Nat.beq off 0) (atMap m H (fun es c => chk (orF (empN seen) (orF (isEmp es) (notF (allGe last es)))) (one (unseen seen es) (ih (put d (.tuple [.bool false]) r) D H) (fun e => chk (Nat.blt e.2.2 since) (ih (put d (.tuple [.bool true, e.1, e.2.1]) r) D (hset H i (some (.iter m since (app seen [e.2.2]) c)))))))))))
def lastN (l : List Nat) (k : Nat → Bool) : Bool := @List.rec Nat (fun _ => (Nat → Bool) → Bool) (fun _ => false) (fun a l ih k => @Bool.rec (fun _ => Bool) (ih k) (k a) (empN l)) l k
def esGet (s : Nat) (es : List (AV × AV × Nat)) (k : (AV × AV × Nat) → Bool) : Bool := @List.rec (AV × AV × Nat) (fun _ => Nat → ((AV × AV × Nat) → Bool) → Bool) (fun _ _ => false) (fun e _ ih s k => @Bool.rec (fun _ => Bool) (ih s k) (k e) (Nat.beq e.2.2 s)) es s k
def o_entry (d : Dst) (x : Opnd) (_ : CallT) (ih : KO) (r : Regs) (D : Dfr) (H : Heap) : Bool := onPtr (ov x r) (fun i off => onSome (hget H i) (fun b => bIter b (fun m _ seen last => chk (Nat.beq off 0) (lastN seen (fun s => atMap m H (fun es c => chk (Nat.beq c last) (esGet s es (fun e => ih (put d (.tuple [e.1, e.2.1]) r) D H))))))))
def o_ext (d : Dst) (x : Opnd) (i : Nat) (_ : CallT) (ih : KO) (r : Regs) (D : Dfr) (H : Heap) : Bool := onTuple (ov x r) (fun l => nth i l (fun v => ih (put d v r) D H))
def lenS  (v : AV) (k : Nat → Bool) : Bool := @AV.rec (fun _ => (Nat → Bool) → Bool) (fun _ => PUnit) (fun _ _ _ => false) (fun _ _ => false) (fun s k => forceN (lenF s) k) (fun _ _ _ => false) (fun _ _ len _ _ k => k len) (fun _ _ => false) (fun _ _ _ _ _ _ => false) (fun _ _ => false) (fun _ _ _ => false) (fun _ _ _ => false) (fun _ => false) (fun k => k 0) (fun _ _ => false) PUnit.unit (fun _ _ _ _ => PUnit.unit) v k
def lenL  (v : AV) (k : Nat → Bool) : Bool := @AV.rec (fun _ => (Nat → Bool) → Bool) (fun _ => PUnit) (fun _ _ _ => false) (fun _ _ => false) (fun _ _ => false) (fun _ _ _ => false) (fun _ _ len _ _ k => k len) (fun _ _ => false) (fun _ _ _ _ _ _ => false) (fun _ _ => false) (fun _ _ _ => false) (fun _ _ _ => false) (fun _ => false) (fun k => k 0) (fun _ _ => false) PUnit.unit (fun _ _ _ _ => PUnit.unit) v k
def o_len (d : Dst) (x : Opnd) (_ : CallT) (ih : KO) (r : Regs) (D : Dfr) (H : Heap) : Bool := lenL (ov x r) (fun n => ih (put d (.int .i64 (Int.ofNat (n))) r) D H)
def o_lens (d : Dst) (x : Opnd) (_ : CallT) (ih : KO) (r : Regs) (D : Dfr) (H : Heap) : Bool := onStr (ov x r) (fun s => forceN (lenF s) (fun n => ih (put d (.int .i64 (Int.ofNat (n))) r) D H))
def o_lenm (d : Dst) (x : Opnd) (_ : CallT) (ih : KO) (r : Regs) (D : Dfr) (H : Heap) : Bool := esOf (ov x r) H (fun es => forceN (lenF es) (fun n => ih (put d (.int .i64 (Int.ofNat (n))) r) D H))
def capA  (v : AV) (k : Nat → Bool) : Bool := @AV.rec (fun _ => (Nat → Bool) → Bool) (fun _ => PUnit) (fun _ _ _ => false) (fun _ _ => false) (fun _ _ => false) (fun _ _ _ => false) (fun _ _ _ ex cap k => chk (Nat.beq ex 0) (k cap)) (fun _ _ => false) (fun _ _ _ _ _ _ => false) (fun _ _ => false) (fun _ _ _ => false) (fun _ _ _ => false) (fun _ => false) (fun k => k 0) (fun _ _ => false) PUnit.unit (fun _ _ _ _ => PUnit.unit) v k
def o_cap (d : Dst) (x : Opnd) (_ : CallT) (ih : KO) (r : Regs) (D : Dfr) (H : Heap) : Bool := capA (ov x r) (fun n => ih (put d (.int .i64 (Int.ofNat (n))) r) D H)
def firstA  (v : AV) (s_ : Nat) (n : Nat) (H : Heap) (k : List AV → Bool) : Bool := @AV.rec (fun _ => Nat → Nat → Heap → (List AV → Bool) → Bool) (fun _ => PUnit) (fun _ _ _ _ _ _ => false) (fun _ _ _ _ _ => false) (fun s s_ n _ k => chk (Nat.beq s_ 1) (cut n s (fun p _ => k (mapF byteV p)))) (fun _ _ _ _ _ _ => false) (fun i off _ _ _ s_ n H k => atCells i H (fun _ _ l => cut off l (fun _ q => cut (Nat.mul n s_) q (fun c _ => k c)))) (fun _ _ _ _ _ => false) (fun _ _ _ _ _ _ _ _ _ => false) (fun _ _ _ _ _ => false) (fun _ _ _ _ _ _ => false) (fun _ _ _ _ _ _ => false) (fun _ _ _ _ => false) (fun _ n _ k => chk (Nat.beq n 0) (k [])) (fun _ _ _ _ _ => false) PUnit.unit (fun _ _ _ _ => PUnit.unit) v s_ n H k
def appA  (v : AV) (w : AV) (e_ : TypeId) (s_ : Nat) (n : Nat) (c : List AV) (H : Heap) (k : AV → Heap → Bool) : Bool := @AV.rec (fun _ => AV → TypeId → Nat → Nat → List AV → Heap → (AV → Heap → Bool) → Bool) (fun _ => PUnit) (fun _ _ _ _ _ _ _ _ _ => false) (fun _ _ _ _ _ _ _ _ => false) (fun _ _ _ _ _ _ _ _ => false) (fun _ _ _ _ _ _ _ _ _ => false) (fun i off len ex cap w e_ s_ n c H k => ifB (Nat.beq ex 0) (ifB (Nat.ble (Nat.add len n) cap) (ifB (Nat.beq n 0) (k w H) (atCells i H (fun ex e l => over (Nat.add off (Nat.mul len s_)) l c (fun l => forceN (Nat.add len n) (fun m => k (.slice i off m 0 cap) (hset H i (some (.cells ex e l)))))))) (firstA w s_ len H (fun old => forceN (Nat.add len n) (fun m => chk (Nat.blt m 1048576) (alloc H (.cells false e_ (app old c)) (fun j H => k (.slice j 0 m (Nat.succ s_) 0) H)))))) (ifB (Nat.beq n 0) (k w H) (atCells i H (fun _ e l => chk (andF (Nat.beq e e_) (Nat.beq ex (Nat.succ s_))) (cut off l (fun _ q => cut (Nat.mul len s_) q (fun old _ => forceN (Nat.add len n) (fun m => chk (Nat.blt m 1048576) (alloc (hset H i none) (.cells false e_ (app old c)) (fun j H => k (.slice j 0 m (Nat.succ s_) 0) H)))))))))) (fun _ _ _ _ _ _ _ _ => false) (fun _ _ _ _ _ _ _ _ _ _ _ _ => false) (fun _ _ _ _ _ _ _ _ => false) (fun _ _ _ _ _ _ _ _ _ => false) (fun _ _ _ _ _ _ _ _ _ => false) (fun _ _ _ _ _ _ _ => false) (fun w e_ s_ n c H k => ifB (Nat.beq n 0) (k w H) (chk (Nat.blt n 1048576) (alloc H (.cells false e_ c) (fun j H => k (.slice j 0 n (Nat.succ s_) 0) H)))) (fun _ _ _ _ _ _ _ _ => false) PUnit.unit (fun _ _ _ _ => PUnit.unit) v w e_ s_ n c H k
def o_app (e : TypeId) (s : Nat) (d : Dst) (x : Opnd) (y : Opnd) (_ : CallT) (ih : KO) (r : Regs) (D : Dfr) (H : Heap) : Bool := lenS (ov y r) (fun n => firstA (ov y r) s n H (fun c => allCell c (appA (ov x r) (ov x r) e s n c H (fun v H => ih (put d v r) D H))))
def copyA  (v : AV) (s_ : Nat) (y : AV) (H : Heap) (k : Nat → Heap → Bool) : Bool := @AV.rec (fun _ => Nat → AV → Heap → (Nat → Heap → Bool) → Bool) (fun _ => PUnit) (fun _ _ _ _ _ _ => false) (fun _ _ _ _ _ => false) (fun _ _ _ _ _ => false) (fun _ _ _ _ _ _ => false) (fun i off len ex _ s_ y H k => lenS y (fun n => forceN (@Bool.rec (fun _ => Nat) (len) (n) (Nat.ble n len)) (fun n => ifB (Nat.beq n 0) (k 0 H) (firstA y s_ n H (fun c => allCell c (atCells i H (fun ex e l => over off l c (fun l => k n (hset H i (some (.cells ex e l))))))))))) (fun _ _ _ _ _ => false) (fun _ _ _ _ _ _ _ _ _ => false) (fun _ _ _ _ _ => false) (fun _ _ _ _ _ _ => false) (fun _ _ _ _ _ _ => false) (fun _ _ _ _ => false) (fun _ y H k => lenS y (fun _ => k 0 H)) (fun _ _ _ _ _ => false) PUnit.unit (fun _ _ _ _ => PUnit.unit) v s_ y H k
def o_copy (s : Nat) (d : Dst) (x : Opnd) (y : Opnd) (_ : CallT) (ih : KO) (r : Regs) (D : Dfr) (H : Heap) : Bool := copyA (ov x r) s (ov y r) H (fun n H => ih (put d (.int .i64 (Int.ofNat (n))) r) D H)
def o_clrm (d : Dst) (x : Opnd) (_ : CallT) (ih : KO) (r : Regs) (D : Dfr) (H : Heap) : Bool := onMap (ov x r) (fun i => atMap i H (fun _ c => ih (put d (AV.tuple []) r) D (hset H i (some (.map [] c)))))
def clrA  (v : AV) (z : List AV) (H : Heap) (k : Heap → Bool) : Bool := @AV.rec (fun _ => List AV → Heap → (Heap → Bool) → Bool) (fun _ => PUnit) (fun _ _ _ _ _ => false) (fun _ _ _ _ => false) (fun _ _ _ _ => false) (fun _ _ _ _ _ => false) (fun i off len ex _ z H k => ifB (Nat.beq len 0) (k H) (allCell z (atCells i H (fun ex e l => over off l (reps len z) (fun l => k (hset H i (some (.cells ex e l)))))))) (fun _ _ _ _ => false) (fun _ _ _ _ _ _ _ _ => false) (fun _ _ _ _ => false) (fun _ _ _ _ _ => false) (fun _ _ _ _ _ => false) (fun _ _ _ => false) (fun _ H k => k H) (fun _ _ _ _ => false) PUnit.unit (fun _ _ _ _ => PUnit.unit) v z H k
def o_clrs (z : List AV) (d : Dst) (x : Opnd) (_ : CallT) (ih : KO) (r : Regs) (D : Dfr) (H : Heap) : Bool := clrA (ov x r) z H (fun H => ih (put d (AV.tuple []) r) D H)
def o_usd (d : Dst) (x : Opnd) (_ : CallT) (ih : KO) (r : Regs) (D : Dfr) (H : Heap) : Bool := onSlice (ov x r) (fun i off len q cap => chk (andF (notF (Nat.beq len 0)) (orF (notF (Nat.beq q 0)) (notF (Nat.beq cap 0)))) (ih (put d (.ptr i off) r) D H))
def o_ustr (u : TypeId) (d : Dst) (x : Opnd) (n : Opnd) (_ : CallT) (ih : KO) (r : Regs) (D : Dfr) (H : Heap) : Bool := onInt (ov n r) (fun _ n => onNat n (fun n => onPtr (ov x r) (fun i off => atCells i H (fun _ e l => chk (andF (andF (notF (Nat.beq n 0)) (Nat.blt n 4611686018427387904)) (andF (Nat.beq (P.cellsOf e) 1) (sameLayout P P.depth e u))) (cut off l (fun _ q => cut n q (fun c _ => bytes c (fun s => ih (put d (.str s) r) D (hset H i none)))))))))
def o_gblt (b : Builtin) (ts : Array TypeId) (t : TypeId) (cs : Array Bool) (d : Dst) (xs : List Opnd) (_ : CallT) (ih : KO) (r : Regs) (D : Dfr) (H : Heap) : Bool := gens P (ovs xs r) (fun vs => builtin b ts t cs vs) (fun v => ih (put d v r) D H)
def o_call (d : Dst) (f : Fid) (xs : List Opnd) (cl : CallT) (ih : KO) (r : Regs) (D : Dfr) (H : Heap) : Bool := cl false (.func f [] []) (ovs xs r) H (fun v H => ih (put d v r) D H)
def o_callv (d : Dst) (x : Opnd) (xs : List Opnd) (cl : CallT) (ih : KO) (r : Regs) (D : Dfr) (H : Heap) : Bool := cl false (ov x r) (ovs xs r) H (fun v H => ih (put d v r) D H)
def o_noesc (d : Dst) (x : Opnd) (_ : CallT) (ih : KO) (r : Regs) (D : Dfr) (H : Heap) : Bool := ih (put d (ov x r) r) D H
def o_gext (f : Nat) (d : Dst) (xs : List Opnd) (_ : CallT) (ih : KO) (r : Regs) (D : Dfr) (H : Heap) : Bool := gens P (ovs xs r) (fun vs => callFunc f vs) (fun v => ih (put d v r) D H)
def pushD  (v : Dfr) (e : DE) (k : Dfr → Bool) : Bool := @Dfr.rec (fun _ => DE → (Dfr → Bool) → Bool) (fun l e k => k (.fn (e :: l))) (fun _ _ => false) v e k
def o_dfr (d : Dst) (x : Opnd) (xs : List Opnd) (_ : CallT) (ih : KO) (r : Regs) (D : Dfr) (H : Heap) : Bool := onFunc (ov x r) (fun _ _ _ => pushD D (.call (ov x r) (ovs xs r)) (fun D => ih (put d (AV.tuple []) r) D H))
def o_no (_ : CallT) (_ : KO) (_ : Regs) (_ : Dfr) (_ : Heap) : Bool := false
end
section
variable (P : Program)
def step (x : XO) (cl : CallT) (ih : KO) (r : Regs) (D : Dfr) (H : Heap) : Bool := @XO.rec (fun _ => CallT → KO → Regs → Dfr → Heap → Bool) o_mv o_pick o_new o_box o_build o_bslice o_ld o_ldn o_stn o_st o_nilck (o_bin P) (o_gbin P) o_peq o_neq0 o_not (o_gun P) o_cvi o_cvp (o_cvp2 P) o_cvbs o_cvsb (o_gcv P) o_mkf o_mkmap o_mkslice o_slc o_slca o_slcs o_fa o_fld o_fldn o_ia o_iaa o_idx (o_gidx P) (o_lookup P) (o_mupd P) (o_mentry P) o_estore o_rngs o_rngm o_nxs o_nxm o_entry o_ext o_len o_lens o_lenm o_cap o_app o_copy o_clrm o_clrs o_usd (o_ustr P) (o_gblt P) o_call o_callv o_noesc (o_gext P) o_dfr o_no x cl ih r D H
def gdA  (v : AV) (want : Bool) (x : Bool) (y : Bool) : Bool := @AV.rec (fun _ => Bool → Bool → Bool → Bool) (fun _ => PUnit) (fun _ _ _ _ _ => false) (fun b want x y => @Bool.rec (fun _ => Bool) (@Bool.rec (fun _ => Bool) x y want) (@Bool.rec (fun _ => Bool) y x want) b) (fun _ _ _ _ => false) (fun _ _ _ _ _ => false) (fun _ _ _ _ _ _ _ _ => false) (fun _ _ _ _ => false) (fun _ _ _ _ _ _ _ _ => false) (fun _ _ _ _ => false) (fun _ _ _ _ _ => false) (fun _ _ _ _ y => y) (fun _ _ _ => false) (fun _ _ _ => false) (fun _ _ _ _ => false) PUnit.unit (fun _ _ _ _ => PUnit.unit) v want x y
def gd  (v : Gd) (r : Regs) (x : Bool) (y : Bool) : Bool := @Gd.rec (fun _ => Regs → Bool → Bool → Bool) (fun _ x _ => x) (fun a b want r x y => gdA (gD b (gD a r)) want x y) v r x y
def runOps (l : List XG) (cl : CallT) (k : KO) (r : Regs) (D : Dfr) (H : Heap) : Bool := @List.rec XG (fun _ => CallT → KO → Regs → Dfr → Heap → Bool) (fun _ k r D H => k r D H) (fun g _ ih cl k r D H => gd g.g r (step P g.x cl (ih cl k) r D H) (ih cl k (put g.d (.tuple []) r) D H)) l cl k r D H
mutual
def beqA : AV → AV → Bool
  | .int k n, .int j m => eqK k j && eqF n m
  | .bool a, .bool b => a == b
  | .str s, .str t => eqS s t
  | .ptr i o, .ptr j q => eqId i j && Nat.beq o q
  | .slice i o n e c, .slice j q m f d => eqId i j && Nat.beq o q && Nat.beq n m && Nat.beq e f && Nat.beq c d
  | .map i, .map j => eqId i j
  | .nilp, .nilp => true
  | .nils, .nils => true
  | .agg l, .agg m => beqL l m
  | _, _ => false
def beqL : List AV → List AV → Bool
  | [], [] => true
  | a :: l, b :: m => beqA a b && beqL l m
  | _, _ => false
end
def older (ws : Nat) (hs : List Heap) (f : Heap → (AV → Bool) → Bool) (v : AV) (k : Bool) : Bool := @Nat.rec (fun _ => List Heap → (Heap → (AV → Bool) → Bool) → AV → Bool → Bool) (fun _ _ _ k => k) (fun _ ih hs f v k => @List.rec Heap (fun _ => (List Heap → (Heap → (AV → Bool) → Bool) → AV → Bool → Bool) → (Heap → (AV → Bool) → Bool) → AV → Bool → Bool) (fun _ _ _ _ => false) (fun h t _ ih f v k => f h (fun u => chk (beqA u v) (ih t f v k))) hs ih f v k) ws hs f v k
def ldAt (x : Opnd) (n : Option Nat) (r : Regs) (H : Heap) (k : AV → Bool) : Bool := onPtr (ov x r) (fun i off => atCells i H (fun _ _ l => @Option.rec Nat (fun _ => Nat → List AV → (AV → Bool) → Bool) (fun off l k => nth off l k) (fun n off l k => cut off l (fun _ q => cut n q (fun c _ => k (.agg c)))) n off l k))
def ldX : XO → Option (Opnd × Option Nat)
  | .ld _ x => some (x, none)
  | .ldn _ x n => some (x, some n)
  | _ => none
def leId (a b : Id) : Bool := Nat.ble a.toNat b.toNat
def onHd (hs : List Heap) (k : Heap → List Heap → Bool) : Bool := @List.rec Heap (fun _ => (Heap → List Heap → Bool) → Bool) (fun _ => false) (fun h t _ k => k h t) hs k
def clsK  (v : Cls) (g : XG) (cl : CallT) (KK : List Heap → KO) (hs : List Heap) (r : Regs) (D : Dfr) (H : Heap) : Bool := @Cls.rec (fun _ => XG → CallT → (List Heap → KO) → List Heap → Regs → Dfr → Heap → Bool) (fun g cl KK hs r D H => step P g.x cl (KK hs) r D H) (fun g cl KK hs r D H => step P g.x cl (fun r D X => chk (leId H.nx X.nx) (KK (X :: hs) r D X)) r D H) (fun ws g _ KK hs r D H => onSome (ldX g.x) (fun p => onHd hs (fun h t => ldAt p.1 p.2 r h (fun v => older ws t (ldAt p.1 p.2 r) v (KK hs (put g.d v r) D H))))) v g cl KK hs r D H
def skK  (v : Cls) (H : Heap) (hs : List Heap) (k : List Heap → Bool) : Bool := @Cls.rec (fun _ => Heap → List Heap → (List Heap → Bool) → Bool) (fun _ hs k => k hs) (fun H hs k => k (H :: hs)) (fun _ _ hs k => k hs) v H hs k
def runD (l : List XG) (cl : CallT) (k : KO) (hs : List Heap) (r : Regs) (D : Dfr) (H : Heap) : Bool := @List.rec XG (fun _ => CallT → KO → List Heap → Regs → Dfr → Heap → Bool) (fun _ k _ r D H => k r D H) (fun g _ ih cl k hs r D H => gd g.g r (clsK P g.c g cl (ih cl k) hs r D H) (skK g.c H hs (fun hs => ih cl k hs (put g.d (.tuple []) r) D H))) l cl k hs r D H
def seqK  (v : Ex) (b : (Ex → KO) → Regs → Dfr → Heap → Bool) (k : Ex → KO) (r : Regs) (D : Dfr) (H : Heap) : Bool := @Ex.rec (fun _ => ((Ex → KO) → Regs → Dfr → Heap → Bool) → (Ex → KO) → Regs → Dfr → Heap → Bool) (fun b k r D H => b k r D H) (fun id _ k r D H => k (.exit id) r D H) (fun _ k r D H => k .ret r D H) v b k r D H
def blkK  (v : Ex) (i : Nat) (k : Ex → KO) (r : Regs) (D : Dfr) (H : Heap) : Bool := @Ex.rec (fun _ => Nat → (Ex → KO) → Regs → Dfr → Heap → Bool) (fun _ k r D H => k .normal r D H) (fun id i k r D H => ifB (Nat.beq id i) (k .normal r D H) (k (.exit id) r D H)) (fun _ k r D H => k .ret r D H) v i k r D H
def loopK  (v : Ex) (again : KO) (k : Ex → KO) (r : Regs) (D : Dfr) (H : Heap) : Bool := @Ex.rec (fun _ => KO → (Ex → KO) → Regs → Dfr → Heap → Bool) (fun again _ r D H => again r D H) (fun id _ k r D H => k (.exit id) r D H) (fun _ k r D H => k .ret r D H) v again k r D H
def iter (n : Nat) (b : (Ex → KO) → Regs → Dfr → Heap → Bool) (k : Ex → KO) (r : Regs) (D : Dfr) (H : Heap) : Bool := @Nat.rec (fun _ => ((Ex → KO) → Regs → Dfr → Heap → Bool) → (Ex → KO) → Regs → Dfr → Heap → Bool) (fun _ _ _ _ _ => false) (fun _ ih b k r D H => b (fun e => loopK e (ih b k) k) r D H) n b k r D H
def putA (ps : List (D × D)) (args : List AV) (r : Regs) (k : Regs → Bool) : Bool := @List.rec (D × D) (fun _ => List AV → Regs → (Regs → Bool) → Bool) (fun args r k => @List.rec AV (fun _ => Regs → (Regs → Bool) → Bool) (fun r k => k r) (fun _ _ _ _ _ => false) args r k) (fun q _ ih args r k => @List.rec AV (fun _ => D × D → (List AV → Regs → (Regs → Bool) → Bool) → Regs → (Regs → Bool) → Bool) (fun _ _ _ _ => false) (fun v l _ q ih r k => ih l (rset q.1 q.2 v r) k) args q ih r k) ps args r k
def isReady : LoopState → Bool
  | .ready => true
  | _ => false
def isBusy : LoopState → Bool
  | .busy => true
  | _ => false
def enterD  (v : Dfr) (H : Heap) (k : Dfr → Heap → Bool) : Bool := @Dfr.rec (fun _ => Heap → (Dfr → Heap → Bool) → Bool) (fun l H k => alloc H .dfrs (fun i H => k (.fn (.mark i :: l)) H)) (fun _ _ => false) v H k
def pendK  (v : Ex) (k : Ex → KO) (r : Regs) (D : Dfr) (H : Heap) : Bool := @Ex.rec (fun _ => (Ex → KO) → Regs → Dfr → Heap → Bool) (fun k r D H => k .normal r D H) (fun id k r D H => k (.exit id) r D H) (fun k r D H => k .ret r D H) v k r D H
def afterR (l : Id) (k : Ex → KO) (r : Regs) (D : Dfr) (H : Heap) : Bool := onSome (hget H l) (fun b => bLoop b (fun st pend tr ps asg body => chk (notF (isBusy st)) (k pend r D (hset H l (some (.loop .exhausted pend tr ps asg body))))))
def exec (c : XC) (cl : CallT) (k : Ex → KO) (r : Regs) (D : Dfr) (H : Heap) : Bool := @XC.rec (fun _ => CallT → (Ex → KO) → Regs → Dfr → Heap → Bool) (fun _ k r D H => k .normal r D H) (fun l => fun cl k r D H => runOps P l cl (k .normal) r D H) (fun l => fun cl k r D H => runD P l cl (k .normal) [H] r D H) (fun _ _ i_a i_b => fun cl k r D H => i_a cl (fun e => seqK e (i_b cl) k) r D H) (fun o _ _ i_a i_b => fun cl k r D H => ifA (ov o r) (i_a cl k r D H) (i_b cl k r D H)) (fun id _ i_b => fun cl k r D H => i_b cl (fun e => blkK e id k) r D H) (fun _ i_b => fun cl k r D H => iter 1048576 (i_b cl) k r D H) (fun g ps asg body _ _ => fun cl k r D H => enterD D H (fun D H => alloc H (.loop .ready .normal r ps asg body) (fun l H => onFunc (ov g r) (fun f first cap => cl false (.func f (app first [.yield l]) cap) [] H (fun _ H => afterR l k r D H))))) (fun id => fun _ k r D H => k (.exit id) r D H) (fun _ k r D H => k .ret r D H) (fun _ _ _ _ _ => false) c cl k r D H
def isDfrs  (v : Blk) (k : Bool) : Bool := @Blk.rec (fun _ => Bool → Bool) (fun _ _ _ _ => false) (fun _ _ _ => false) (fun _ _ _ => false) (fun _ _ _ _ _ => false) (fun k => k) (fun _ _ _ _ _ _ _ => false) v k
def unw (ds : List DE) (cl : CallT) (H : Heap) (k : Heap → Bool) : Bool := @List.rec DE (fun _ => CallT → Heap → (Heap → Bool) → Bool) (fun _ H k => k H) (fun d _ ih cl H k => @DE.rec (fun _ => (Heap → Bool) → CallT → Heap → Bool) (fun v args k cl H => cl true v args H (fun _ H => k H)) (fun b k _ H => onSome (hget H b) (fun x => isDfrs x (k (hset H b none)))) d (fun H => ih cl H k) cl H) ds cl H k
def res1  (v : XR) (r : Regs) (H : Heap) (k : AV → Bool) : Bool := @XR.rec (fun _ => Regs → Heap → (AV → Bool) → Bool) (fun a b r _ k => k (gD b (gD a r))) (fun a b n r H k => ldAt (.t a b) n r H k) v r H k
def resL (l : List XR) (r : Regs) (H : Heap) (k : List AV → Bool) : Bool := @List.rec XR (fun _ => Regs → Heap → (List AV → Bool) → Bool) (fun _ _ k => k []) (fun x _ ih r H k => res1 x r H (fun v => ih r H (fun l => k (v :: l)))) l r H k
def resV (l : List AV) : AV := @List.rec AV (fun _ => AV) (.tuple []) (fun a l _ => @List.rec AV (fun _ => AV → List AV → AV) (fun a _ => a) (fun _ _ _ a l => .tuple (a :: l)) l a l) l
def undefR : Regs := fillN (fillN (.tuple []))
def onFn  (v : Dfr) (k : List DE → Bool) : Bool := @Dfr.rec (fun _ => (List DE → Bool) → Bool) (fun l k => k l) (fun _ => false) v k
def endE  (v : Ex) (k : Bool) : Bool := @Ex.rec (fun _ => Bool → Bool) (fun k => k) (fun _ _ => false) (fun k => k) v k
def isNilD  (v : List DE)  : Bool := @List.rec DE (fun _ => Bool) (true) (fun _ _ _ => false) v 
def runFn (xf : XFn) (fl : Bool) (cl : CallT) (args : List AV) (H : Heap) (k : AV → Heap → Bool) : Bool := putA xf.ps args undefR (fun r => exec P xf.body cl (fun e r D H => endE e (onFn D (fun ds => chk (orF (notF fl) (isNilD ds)) (unw ds cl H (fun H => resL xf.res r H (fun l => k (resV l) H)))))) r (.fn []) H)
def isN  (v : Ex) (x : Bool) (y : Bool) : Bool := @Ex.rec (fun _ => Bool → Bool → Bool) (fun x _ => x) (fun _ _ y => y) (fun _ y => y) v x y
def endR (l : Id) (e : Ex) (H : Heap) (k : AV → Heap → Bool) : Bool := onSome (hget H l) (fun b => bLoop b (fun _ _ tr ps asg body => isN e (k (.bool true) (hset H l (some (.loop .ready .normal tr ps asg body)))) (k (.bool false) (hset H l (some (.loop .done e tr ps asg body))))))
def onN (e : Ex) (k : Bool) : Bool := isN e k false
def runRd (l : Id) (cl : CallT) (args : List AV) (H : Heap) (k : AV → Heap → Bool) : Bool := onSome (hget H l) (fun b => bLoop b (fun st pend tr ps asg body => chk (isReady st) (putA ps args tr (fun r => exec P asg cl (fun e r _ H => onN e (exec P body cl (fun e _ _ H => endR l e H k) r .round (hset H l (some (.loop .busy pend tr ps asg body))))) r .round H))))
def tget  (v : Fid) (t : Tab) : Option XFn := @Fid.rec (fun _ => Tab → Option XFn) (fun a b c t => gD c (gD b (gD a t))) v t
variable (tb : Tab)
def enter (cl : CallT) : CallT := fun fl v args H k => @AV.rec (fun _ => Bool → CallT → List AV → Heap → (AV → Heap → Bool) → Bool) (fun _ => PUnit) (fun _ _ _ _ _ _ _ => false) (fun _ _ _ _ _ _ => false) (fun _ _ _ _ _ _ => false) (fun _ _ _ _ _ _ _ => false) (fun _ _ _ _ _ _ _ _ _ _ => false) (fun _ _ _ _ _ _ => false) (fun f first cap _ _ fl cl args H k => onSome (tget f tb) (fun xf => runFn P xf fl cl (app first (app args cap)) H k)) (fun _ _ _ _ _ _ => false) (fun _ _ _ _ _ _ _ => false) (fun _ _ _ _ _ _ _ => false) (fun _ _ _ _ _ => false) (fun _ _ _ _ _ => false) (fun _ _ _ _ _ _ => false) PUnit.unit (fun _ _ _ _ => PUnit.unit) v fl cl args H k
def lev (n : Nat) : CallT := @Nat.rec (fun _ => CallT) (fun _ _ _ _ _ => false) (fun _ ih => enter P tb ih) n
def emptyT : Tab := fillN (fillN (fillN none))
def tset (f : Fid) (x : Option XFn) (t : Tab) : Tab := mD f.a (mD f.b (sD f.c x)) t
def mkTab : List (Fid × XFn) → Tab
  | [] => emptyT
  | (f, x) :: l => tset f (some x) (mkTab l)
def heap0 : Heap := ⟨⟨.d0, .d0, .d0, .d0⟩, fillN (fillN (fillN (fillN none)))⟩
def isTrue (v : AV) (_ : Heap) : Bool := onBool v (fun b => b)
def runB (n : Nat) (f : Fid) : Bool := lev P tb n false (.func f [] []) [] heap0 isTrue
end
/-! The compiler. -/
section
variable (P : Program)
def und (t : TypeId) : Option TypeDesc := P.underlying t
def sz (t : TypeId) : Option Nat := (P.info? t).map (·.size)
def isAggD : TypeDesc → Bool
  | .struct _ | .array _ _ => true
  | _ => false
def zeroA (t : TypeId) : Option AV := match P.info? t with
  | some i => (match i.zero with | some v => some (ofV v) | none => none)
  | none => none
def zeroC (t : TypeId) : Option (List AV) := match P.info? t with
  | some i => (match i.zero with | some v => some (v.cells.toList.map ofV0) | none => none)
  | none => none
def cP (t : Nat) : D × D := (D.ofNat (t / 16), D.ofNat (t % 16))
def cO : Operand → Opnd
  | .tmp t => .t (cP t).1 (cP t).2
  | .const v => .c (ofV v)
  | .global g => .c (.lit (.pointer (some ⟨g, 0, none⟩)))
  | .func f => .c (.func (Fid.ofNat f) [] [])
def cD : Option Tmp → Dst
  | none => .n
  | some t => .p (cP t).1 (cP t).2
def okO (n : Nat) : Operand → Bool
  | .tmp t => Nat.blt t n
  | .func f => Nat.blt f 4096
  | _ => true
def cOo : Option Operand → Option Opnd
  | none => none
  | some o => some (cO o)
def cBF : BinOp → BF
  | .add => .add | .sub => .sub | .mul => .mul | .quo => .quo | .rem => .rem | .and => .and | .or => .or | .xor => .xor | .andNot => .andNot
  | .shl => .shl | .shr => .shr | .eql => .eql | .neq => .neq | .lss => .lss | .leq => .leq | .gtr => .gtr | .geq => .geq
/-- The parts of what is built, in cells. -/
def cParts (place : Nat → Option (Nat × Nat)) : List (Nat × Operand) → Option (List (Nat × Nat × Opnd))
  | [] => some []
  | (i, x) :: l => match place i, cParts place l with
    | some (off, s), some r => some ((off, s, cO x) :: r)
    | _, _ => none
def isNeq : BinOp → Bool
  | .neq => true
  | _ => false
def isEq : BinOp → Bool
  | .neq | .eql => true
  | _ => false
def okX (c : Bool) (x : XO) : XO := bif c then x else .no
def smallB (e : TypeId) : Bool := match P.info? e with | some i => Nat.blt i.bytes 65536 | none => false
def cBin (op : BinOp) (t : TypeId) (x y : Operand) (d : Dst) : XO :=
  match und P t with
  | some (.int _) | some .string => .bin (cBF op) d (cO x) (cO y)
  | some (.pointer e) => bif isEq op then (match sz P e with | some (_ + 1) => .peq (isNeq op) d (cO x) (cO y) | _ => .no) else .no
  | some (.slice _) => bif isEq op then .neq0 0 (isNeq op) d (cO x) (cO y) else .no
  | some (.func ..) => bif isEq op then .neq0 1 (isNeq op) d (cO x) (cO y) else .no
  | some (.map ..) => bif isEq op then .neq0 2 (isNeq op) d (cO x) (cO y) else .no
  | some _ => .gbin op t x y d (cO x) (cO y)
  | none => .no
def isConv : BinOp → Bool
  | .shl | .shr => true
  | _ => false
def cConv (s t : TypeId) (x : Operand) (d : Dst) : XO :=
  match und P s, und P t with
  | some (.int _), some (.int k) => .cvi k d (cO x)
  | some (.pointer e), some .unsafePointer => (match sz P e with | some (_ + 1) => .cvp d (cO x) | _ => .no)
  | some .unsafePointer, some (.pointer u) => (match sz P u with | some (_ + 1) => .cvp2 u d (cO x) | _ => .no)
  | some (.slice e), some .string => (match und P e with | some (.int .u8) => .cvbs d (cO x) | _ => .no)
  | some .string, some (.slice e) => (match und P e, sz P e with | some (.int .u8), some 1 => .cvsb e d (cO x) | _, _ => .no)
  | some _, some _ => .gcv s t d (cO x)
  | _, _ => .no
def cSlice (t : TypeId) (x : Operand) (lo hi mx : Option Operand) (d : Dst) : XO :=
  bif mx.isSome && hi.isNone then .no else
  match und P t with
  | some (.slice e) => (match sz P e with | some s => .slc d s (cO x) (cOo lo) (cOo hi) (cOo mx) | none => .no)
  | some .string => (match mx with | none => .slcs d (cO x) (cOo lo) (cOo hi) | some _ => .no)
  | some (.array n e) => (match sz P e with | some s => .slca d s n (cO x) (cOo lo) (cOo hi) (cOo mx) | none => .no)
  | some (.pointer a) => (match und P a with
    | some (.array n e) => (match sz P e with | some s => .slca d s n (cO x) (cOo lo) (cOo hi) (cOo mx) | none => .no)
    | _ => .no)
  | _ => .no
def cField (t : TypeId) (f : Nat) : Option (Nat × Nat × Bool) :=
  match und P t with
  | some (.struct fs) => (match fs[f]? with
    | some f => (match sz P f.type, und P f.type with | some n, some u => some (f.offset, n, isAggD u) | _, _ => none)
    | none => none)
  | _ => none
def cBuiltin (b : Builtin) (ts : Array TypeId) (t : TypeId) (cs : Array Bool) (xs : List Operand) (d : Dst) : XO :=
  match b, xs, ts[0]? with
  | .len, [x], some t => (match und P t with
    | some .string => .lens d (cO x)
    | some (.slice _) => .len d (cO x)
    | some (.map ..) => .lenm d (cO x)
    | _ => .no)
  | .cap, [x], some t => (match und P t with | some (.slice _) => .cap d (cO x) | _ => .no)
  | .append, [x, y], some st => (match und P st with
    | some (.slice e) => (match sz P e, smallB P e, (match ts[1]? with | some u => (match und P u with | some (.int _) => false | some _ => true | none => false) | none => true) with
      | some s, true, true => okX (match zeroC P e with | some z => Nat.beq z.length s | none => false) (.app e s d (cO x) (cO y))
      | _, _, _ => .no)
    | _ => .no)
  | .copy, [x, y], some st => (match und P st with
    | some (.slice e) => (match sz P e with | some s => .copy s d (cO x) (cO y) | none => .no)
    | _ => .no)
  | .clear, [x], some st => (match und P st with
    | some (.slice e) => (match zeroC P e, sz P e with | some z, some s => okX (Nat.beq z.length s) (.clrs z d (cO x)) | _, _ => .no)
    | some (.map ..) => .clrm d (cO x)
    | _ => .no)
  | .unsafeSliceData, [x], _ => .usd d (cO x)
  | .unsafeString, [x, n], some pt => (match und P pt with | some (.pointer u) => .ustr u d (cO x) (cO n) | _ => .no)
  | .max, _, _ => .gblt b ts t cs d (xs.map cO)
  | .min, _, _ => .gblt b ts t cs d (xs.map cO)
  | _, _, _ => .no
def kkOf (t : TypeId) : Nat := match und P t with | some (.int _) => 0 | some .string => 1 | _ => 2
def mapT (t : TypeId) : Option (TypeId × TypeId) := match und P t with | some (.map k e) => (match und P k with | some _ => some (k, e) | none => none) | _ => none
def cOp (o : Oper) (d : Dst) : XO :=
  match o.op with
  | .move x | .assign x => .mv d (cO x)
  | .pick c a b => .pick d (cO c) (cO a) (cO b)
  | .alloc e => (match zeroC P e with | some z => .new d e z | none => .no)
  | .box e x => .box d e (cO x)
  | .build t parts => (match und P t, zeroC P t with
    | some (.struct fs), some z => okX (fs.all fun f => (sz P f.type).isSome) (match cParts (fun i => match fs[i]? with | some f => (match sz P f.type with | some s => some (f.offset, s) | none => none) | none => none) parts.toList with
      | some ps => .build d z ps
      | none => .no)
    | some (.array _ e), some z => (match sz P e with
      | some s => (match cParts (fun i => some (i * s, s)) parts.toList with | some ps => .build d z ps | none => .no)
      | none => .no)
    | _, _ => .no)
  | .buildSlice t len parts => (match und P t with
    | some (.slice e) => (match sz P e, zeroC P e with
      | some s, some z => okX (Nat.beq z.length s && Nat.ble (len * s) 16777216) (match cParts (fun i => some (i * s, s)) parts.toList with | some ps => .bslice d e z len ps | none => .no)
      | _, _ => .no)
    | _ => .no)
  | .load t a => (match und P t, sz P t with
    | some u, some n => bif isAggD u then .ldn d (cO a) n else .ld d (cO a)
    | _, _ => .no)
  | .store t a x => (match und P t, sz P t with
    | some u, some n => bif isAggD u then .stn d (cO a) (cO x) n else (match n with | 1 => .st d (cO a) (cO x) | _ => .no)
    | _, _ => .no)
  | .nilCheck x => .nilck d (cO x)
  | .binOp op t x y _ => cBin P op t x y d
  | .unOp op _ x => (match op with | .not => .not d (cO x) | _ => .gun op d (cO x))
  | .convert s t x => cConv P s t x d
  | .makeFunc (.func f) first cap => okX (Nat.blt f 4096) (.mkf d (Fid.ofNat f) (first.toList.map cO) (cap.toList.map cO))
  | .makeMap t r => (match und P t with | some (.map ..) => .mkmap d (cOo r) | _ => .no)
  | .makeSlice t l c => (match und P t with
    | some (.slice e) => (match zeroC P e, sz P e with | some z, some s => okX (smallB P e && Nat.beq z.length s) (.mkslice d e z (cO l) (cO c)) | _, _ => .no)
    | _ => .no)
  | .slice t x lo hi mx => cSlice P t x lo hi mx d
  | .fieldAddr t x f => (match cField P t f with | some (off, n + 1, _) => .fa d (cO x) off | _ => .no)
  | .field t x f => (match cField P t f with | some (off, n, agg) => bif agg then .fldn d (cO x) off n else .fld d (cO x) off | none => .no)
  | .indexAddr t x i => (match und P t with
    | some (.slice e) => (match sz P e with | some s => .ia d (cO x) (cO i) s | none => .no)
    | some (.array n e) => (match sz P e with | some s => .iaa d (cO x) (cO i) s n | none => .no)
    | _ => .no)
  | .index t x i => (match und P t with
    | some .string => .idx d (cO x) (cO i)
    | some (.array ..) => .gidx t d (cO x) (cO i)
    | _ => .no)
  | .lookup t x k ok => (match mapT P t with
    | some (kt, e) => (match zeroA P e with | some z => .lookup (kkOf P kt) kt z ok d (cO x) (cO k) | none => .no)
    | none => .no)
  | .mapUpdate t m k x | .insert t m k x => (match mapT P t with | some (kt, _) => .mupd (kkOf P kt) kt d (cO m) (cO k) (cO x) | none => .no)
  | .mapEntry t m k => (match mapT P t with
    | some (kt, e) => (match zeroA P e with | some z => .mentry (kkOf P kt) kt z d (cO m) (cO k) | none => .no)
    | none => .no)
  | .entryStore _ m s x => .estore d (cO m) (cO s) (cO x)
  | .range t x => (match und P t with
    | some .string => .rngs d (cO x)
    | some (.map ..) => .rngm d (cO x)
    | _ => .no)
  | .next it true => .nxs d (cO it)
  | .next it false => .nxm d (cO it)
  | .entry it => .entry d (cO it)
  | .extract t i => .ext d (cO t) i
  | .call c => (match c.callee with
    | .builtin b => cBuiltin P b c.argTypes o.type (c.args.map fun | .const _ => true | _ => false) c.args.toList d
    | .value (.func f) => (match P.funcs[f]? with
      | some fn => (match fn.body with
        | some _ => .call d (Fid.ofNat f) (c.args.toList.map cO)
        | none => (match c.args.toList with
          | [x] => okX (Nat.blt f 4096) (bif fn.name == "internal/abi.NoEscape" && fn.origin == "" then .noesc d (cO x) else .gext f d (c.args.toList.map cO))
          | _ => okX (Nat.blt f 4096) (.gext f d (c.args.toList.map cO))))
      | none => .no)
    | .value f => .callv d (cO f) (c.args.toList.map cO)
    | _ => .no)
  | .defer c => (match c.callee with
    | .value f => .dfr d (cO f) (c.args.toList.map cO)
    | _ => .no)
  | _ => .no
/-- What an operation is in a region that draws: of no weight (p), a load (l), or a call, a store, .. (c). -/
inductive Kd where | p | l | c
def kd : XO → Kd
  | .ld .. | .ldn .. => .l
  | .mv .. | .pick .. | .new .. | .box .. | .build .. | .bslice .. | .nilck .. | .bin .. | .gbin .. | .peq .. | .neq0 .. | .not .. | .gun .. | .cvi .. | .gcv .. | .mkf .. | .mkmap .. | .mkslice ..
  | .slc .. | .slca .. | .slcs .. | .fa .. | .fld .. | .fldn .. | .ia .. | .iaa .. | .idx .. | .gidx .. | .ext .. | .gblt .. | .cvsb .. | .rngs .. | .cap .. | .usd .. | .len .. | .lens .. => .p
  | _ => .c
/-- What each operation waits for, by bits. -/
def waits (ops : List Oper) : List Nat :=
  ops.foldl (init := []) fun acc o => acc ++ [o.after.foldl (fun s e => bif Region.binds .any e then Nat.lor (Nat.lor s (2 ^ e.on)) (acc.getD e.on 0) else s) 0]
def cGd (ops : Array Oper) (o : Oper) : Gd :=
  match o.guard with
  | none => .n
  | some (j, want) => match (ops[j]?).bind (·.dst) with
    | some t => .g (cP t).1 (cP t).2 want
    | none => .n
/-- An operation in the resolved form. -/
def cXG (ops : Array Oper) (o : Oper) (kc : Cls) : XG := ⟨cGd ops o, cD o.dst, kc, cOp P o (cD o.dst)⟩
def okT (n : Nat) (t : Option Tmp) : Bool := match t with | some t => Nat.blt t n | none => true
/-- Its slots lie among the n of the function. -/
def okXG (n : Nat) (ops : Array Oper) (o : Oper) : Bool :=
  okT n o.dst && o.op.operands.all (okO n) && (match o.guard with | none => true | some (j, _) => match (ops[j]?).bind (·.dst) with | some t => Nat.blt t n | none => false)
/-- The order in which a region that draws is run: ahead of each call or store only what it waits for. cs: the calls and stores, in order. -/
def orderD (B : List Nat) (n : Nat) : List Nat → List Nat → List Nat
  | [], seen => (List.range n).filter fun i => !seen.contains i
  | c :: cs, seen =>
    let need := (List.range n).filter fun i => !seen.contains i && (B.getD c 0).testBit i
    need ++ c :: orderD B n cs (need ++ c :: seen)
/-- The tables of a region that draws: B: of each operation what it waits for, by bits; ord: the order. cs: the calls and stores. -/
def justB (l : List Oper) (B : List Nat) : Bool :=
  (List.range l.length).all fun i => match l[i]? with
    | some o => decide (B.getD i 0 < 2 ^ i) && (List.range l.length).all fun j => !(B.getD i 0).testBit j || (decide (j < i) && o.after.any fun e => Region.binds .any e && (e.on == j || (B.getD e.on 0).testBit j))
    | none => false
def backB (l : List Oper) : Bool := (List.range l.length).all fun i => match l[i]? with
    | some o => o.after.all fun e => !Region.binds .any e || decide (e.on < i)
    | none => false
def sepB (l : List Oper) (B : List Nat) : Bool :=
  (List.range l.length).all fun i => match l[i]? with
    | some o => (o.looksAt l.toArray ++ o.dst.toList).all fun t => (List.range l.length).all fun j => j == i || (match l[j]? with
        | some o' => o'.dst != some t || (B.getD (max i j) 0).testBit (min i j)
        | none => true)
    | none => false
/-- Each stands behind what it waits for; a call or store behind such alone. -/
def ordB (B cs : List Nat) : List Nat → List Nat → Bool
  | [], _ => true
  | i :: r, seen => !seen.contains i && (!cs.contains i || seen.all fun j => (B.getD i 0).testBit j) && ordB B cs r (i :: seen)
def okDraw (l : List Oper) (B cs ord : List Nat) : Bool :=
  decide ((l.filterMap (·.dst)).Nodup) && Region.noSelect l.toArray && justB l B && backB l && sepB l B && ordB B cs ord [] && ((List.range l.length).all fun i => ord.contains i) && ord.all (fun i => decide (i < l.length) && (List.range l.length).all fun j => !(B.getD i 0).testBit j || (ord.takeWhile (· != i)).contains j)
def clsOf (k : Kd) (w : Nat) : Cls := match k with | .p => .p | .l => .l w | .c => .c
/-- The operations in that order, each with its kind; a load's window: the calls and stores ahead of it in that order that it does not wait for. -/
def drawn (B cs : List Nat) (gs : List XG) : List Nat → List Nat → List XG
  | [], _ => []
  | i :: r, seen => (match gs[i]? with
    | some g => { g with c := clsOf (kd g.x) (seen.filter fun c => cs.contains c && !(B.getD i 0).testBit c).length }
    | none => ⟨.n, .n, .p, .no⟩) :: drawn B cs gs r (i :: seen)
def isC : XO → Bool := fun x => match kd x with | .c => true | _ => false
def csOf (gs : List XG) : List Nat := (List.range gs.length).filter fun i => match gs[i]? with | some g => isC g.x | none => false
def cDraw (ops : Array Oper) : XC :=
  let l := ops.toList
  let B := waits l
  let gs := l.map fun o => cXG P ops o .p
  let cs := csOf gs
  .dops (drawn B cs gs (orderD B l.length cs []) [])
def cC : Code → XC
  | .skip => .skip
  | .label _ => .skip
  | .region _ ops false => .ops (ops.toList.map fun o => cXG P ops o .p)
  | .region _ ops true => cDraw P ops
  | .seq a b => .seq (cC a) (cC b)
  | .cond c a b => .cond (cO c) (cC a) (cC b)
  | .block id b => .block id (cC b)
  | .loop b => .loop (cC b)
  | .rangeFunc f ps a b => .rangeF (cO f) (ps.toList.map cP) (cC a) (cC b)
  | .exit id => .exit id
  | .ret => .ret
  | _ => .bad
/-- The checks behind it. -/
def okDr (ops : Array Oper) : Bool :=
  let l := ops.toList
  let B := waits l
  let gs := l.map fun o => cXG P ops o .p
  okDraw l B (csOf gs) (orderD B l.length (csOf gs) [])
def okC (n : Nat) : Code → Bool
  | .region _ ops false => ops.toList.all (okXG n ops)
  | .region _ ops true => ops.toList.all (okXG n ops) && okDr P ops
  | .seq a b => okC n a && okC n b
  | .cond c a b => okO n c && okC n a && okC n b
  | .block _ b => okC n b
  | .loop b => okC n b
  | .rangeFunc f ps a b => okO n f && ps.all (Nat.blt · n) && okC n a && okC n b
  | _ => true
def cR : ResultVar → XR
  | .tmp t => .t (cP t).1 (cP t).2
  | .cell a t => .c (cP a).1 (cP a).2 (match und P t, sz P t with
    | some u, some m => bif isAggD u then some m else none
    | _, _ => none)
def okR (n : Nat) : ResultVar → Bool
  | .tmp t => Nat.blt t n
  | .cell a t => Nat.blt a n && (und P t).isSome && (sz P t).isSome
def argsOf (fn : Func) : Nat := fn.params.size + fn.nfree
/-- A function. -/
def cF (fn : Func) : Option XFn :=
  match fn.body with
  | some b => some ⟨(List.range (argsOf fn)).map cP, fn.results.toList.map (cR P), cC P b⟩
  | none => none
def okF (fn : Func) : Bool :=
  Nat.ble (argsOf fn) fn.ntmps && Nat.ble fn.ntmps 256 && fn.results.toList.all (okR P fn.ntmps) && (match fn.body with | some b => okC P fn.ntmps b | none => false)
end
end
end Go.Xe
