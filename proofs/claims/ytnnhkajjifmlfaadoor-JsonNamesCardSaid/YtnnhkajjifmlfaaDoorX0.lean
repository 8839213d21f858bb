/- THE EXECUTOR, its words: names, trees, values and objects of an abstract heap; all is written by the types' own eliminators, so that the kernel reckons it quickly. -/
import GoSem.Dispatch
namespace Go.Proofs.YtnnhkajjifmlfaaDoor
namespace Ax

/-- names: binary numbers from one -/
inductive Pn where
  | one
  | o (p : Pn)
  | i (p : Pn)
/-- the next name -/
noncomputable def Pn.succ (p : Pn) : Pn := Pn.rec (.o .one) (fun p _ => .i p) (fun _ ih => .o ih) p
noncomputable def Pn.nat (p : Pn) : Nat := Pn.rec 1 (fun _ ih => 2 * ih) (fun _ ih => 2 * ih + 1) p
/-- two names are one -/
noncomputable def Pn.eq (p : Pn) : Pn → Bool :=
  Pn.rec (fun q => Pn.rec true (fun _ _ => false) (fun _ _ => false) q)
    (fun _ ih q => Pn.rec false (fun q _ => ih q) (fun _ _ => false) q)
    (fun _ ih q => Pn.rec false (fun _ _ => false) (fun q _ => ih q) q) p
/-- the name of number n -/
noncomputable def pth (n : Nat) : Pn := Nat.rec .one (fun _ ih => ih.succ) n

inductive Tr (α : Type) where
  | leaf
  | node (l : Tr α) (v : α) (r : Tr α)
namespace Tr
variable {α β : Type}
noncomputable def getK (d : α) (p : Pn) : Tr α → (α → β) → β :=
  Pn.rec (motive := fun _ => Tr α → (α → β) → β)
    (fun t => Tr.rec (motive := fun _ => (α → β) → β) (fun k => k d) (fun _ v _ _ _ k => k v) t)
    (fun _ ih t => Tr.rec (motive := fun _ => (α → β) → β) (fun k => k d) (fun l _ _ _ _ k => ih l k) t)
    (fun _ ih t => Tr.rec (motive := fun _ => (α → β) → β) (fun k => k d) (fun _ _ r _ _ k => ih r k) t) p
noncomputable def setK (d x : α) (p : Pn) : Tr α → (Tr α → β) → β :=
  Pn.rec (motive := fun _ => Tr α → (Tr α → β) → β)
    (fun t => Tr.rec (motive := fun _ => (Tr α → β) → β) (fun k => k (.node .leaf x .leaf)) (fun l _ r _ _ k => k (.node l x r)) t)
    (fun _ ih t => Tr.rec (motive := fun _ => (Tr α → β) → β) (fun k => ih .leaf fun l => k (.node l d .leaf)) (fun l v r _ _ k => ih l fun l => k (.node l v r)) t)
    (fun _ ih t => Tr.rec (motive := fun _ => (Tr α → β) → β) (fun k => ih .leaf fun r => k (.node .leaf d r)) (fun l v r _ _ k => ih r fun r => k (.node l v r)) t) p
/-- a table as a tree, laid lazily -/
noncomputable def build (n : Nat) : (Pn → α) → Tr α :=
  Nat.rec (motive := fun _ => (Pn → α) → Tr α) (fun _ => .leaf) (fun _ ih g => .node (ih fun p => g (.o p)) (g .one) (ih fun p => g (.i p))) n
noncomputable def get (d : α) (p : Pn) (t : Tr α) : α := getK d p t id
end Tr

/-- values: addresses are names -/
inductive AV where
  | z
  | b (x : Bool)
  | i (k : IntKind) (n : Int)
  | s (l : List UInt8)
  | p (b : Pn) (o : Nat)
  | np
  | sl (b : Pn) (o n c x : Nat)
  | ns
  | m (b : Pn)
  | nm
  | f (fn : Fn) (first cap : List AV)
  | nf
  | ifc (t : TypeId) (v : AV)
  | ni
  | ag (l : List AV)
  | tu (l : List AV)
  | y (b : Pn)

/-- objects -/
inductive AO where
  | x
  | c (l : List AV) (ty : TypeId) (fz : Bool)
  | k (l : List AV) (ty : TypeId)
  | mp (l : List (AV × AV × Option Nat)) (clock : Nat)
  | si (s : List UInt8) (pos : Nat)
  | mi (m : Option Pn) (since : Nat) (seen : List Nat) (last : Nat)
  | lp (st : Nat) (pend : Option Code) (nt : Nat) (tm : Tr AV) (ps : List Nat) (assign body : Code) (dq : Pn)
  | dq (taken : Bool)

/-- deferred calls; the mark of a loop over a function -/
inductive AD where
  | fn (f : FuncId) (us : List AV)
  | mk (b : Pn)

/-- how a piece of code is left -/
inductive R where
  | er (c : Nat)
  | nm (tm : Tr AV) (df : List AD) (h : Tr AO) (n : Pn)
  | ex (id : Nat) (tm : Tr AV) (df : List AD) (h : Tr AO) (n : Pn)
  | rt (tm : Tr AV) (df : List AD) (h : Tr AO) (n : Pn)

/-- what is known of a type -/
structure TI where
  d : TypeDesc
  agg : Bool
  size : Nat
  bytes : Nat
  zc : List AV
  zv : AV
  cmp : Bool

/-- values that bear no address -/
def ofS : Value → Option AV
  | .bool b => some (.b b)
  | .int k n => some (.i k n)
  | .string s => some (.s s.data.toList)
  | .pointer none => some .np
  | .slice none 0 0 => some .ns
  | .map none => some .nm
  | .nilFunc => some .nf
  | .nilIface => some .ni
  | .func fn ⟨[]⟩ ⟨[]⟩ => some (.f fn [] [])
  | _ => none
def ofSs : List Value → Option (List AV)
  | [] => some []
  | v :: r => match ofS v, ofSs r with
    | some x, some l => some (x :: l)
    | _, _ => none
def ofV : Value → Option AV
  | .agg cs => (ofSs cs.toList).map .ag
  | .iface t v => (ofS v).map (.ifc t)
  | .tuple ⟨[]⟩ => some (.tu [])
  | v => ofS v

def isAggD : TypeDesc → Bool
  | .struct _ => true
  | .array _ _ => true
  | _ => false
def mkTI (P : Program) (t : TypeId) : Option TI :=
  match P.info? t, P.underlying t with
  | some i, some d =>
    match i.zero with
    | some z => match ofV z, ofSs z.cells.toList with
      | some zv, some zc => some { d, agg := isAggD d, size := i.size, bytes := i.bytes, zc, zv, cmp := i.comparable }
      | _, _ => none
    | none => none
  | _, _ => none

structure Env where
  P : Program
  ti : TypeId → Option TI
  fn : FuncId → Option Func
  ng : Nat

/-- what is run in a frame of its own: a function's body, a piece of a loop's round -/
inductive Rq where
  | fn (f : FuncId) (us : List AV)
  | rd (nt : Nat) (c : Code) (tm : Tr AV)
abbrev Bd := Rq → Tr AO → Pn → R
abbrev K3 := Tr AV → List AD → Tr AO → Pn → R

/-- by the kind of a value -/
noncomputable def asP (v : AV) : (Pn → Nat → R) → R :=
  @AV.rec (fun _ => (Pn → Nat → R) → R) (fun _ => Unit)
    (fun _ => .er 10)
    (fun _ => fun _ => .er 10)
    (fun _ _ => fun _ => .er 10)
    (fun _ => fun _ => .er 10)
    (fun b o => fun k => k b o)
    (fun _ => .er 10)
    (fun _ _ _ _ _ => fun _ => .er 10)
    (fun _ => .er 10)
    (fun _ => fun _ => .er 10)
    (fun _ => .er 10)
    (fun _ _ _ _ _ => fun _ => .er 10)
    (fun _ => .er 10)
    (fun _ _ _ => fun _ => .er 10)
    (fun _ => .er 10)
    (fun _ _ => fun _ => .er 10)
    (fun _ _ => fun _ => .er 10)
    (fun _ => fun _ => .er 10)
    () (fun _ _ _ _ => ()) v
/-- by the kind of a value -/
noncomputable def asB (v : AV) : R → R → R :=
  @AV.rec (fun _ => R → R → R) (fun _ => Unit)
    (fun _ _ => .er 11)
    (fun x => fun yes no => Bool.rec no yes x)
    (fun _ _ => fun _ _ => .er 11)
    (fun _ => fun _ _ => .er 11)
    (fun _ _ => fun _ _ => .er 11)
    (fun _ _ => .er 11)
    (fun _ _ _ _ _ => fun _ _ => .er 11)
    (fun _ _ => .er 11)
    (fun _ => fun _ _ => .er 11)
    (fun _ _ => .er 11)
    (fun _ _ _ _ _ => fun _ _ => .er 11)
    (fun _ _ => .er 11)
    (fun _ _ _ => fun _ _ => .er 11)
    (fun _ _ => .er 11)
    (fun _ _ => fun _ _ => .er 11)
    (fun _ _ => fun _ _ => .er 11)
    (fun _ => fun _ _ => .er 11)
    () (fun _ _ _ _ => ()) v
/-- by the kind of a value -/
noncomputable def asI (v : AV) : (IntKind → Int → R) → R :=
  @AV.rec (fun _ => (IntKind → Int → R) → R) (fun _ => Unit)
    (fun _ => .er 12)
    (fun _ => fun _ => .er 12)
    (fun q a => fun k => k q a)
    (fun _ => fun _ => .er 12)
    (fun _ _ => fun _ => .er 12)
    (fun _ => .er 12)
    (fun _ _ _ _ _ => fun _ => .er 12)
    (fun _ => .er 12)
    (fun _ => fun _ => .er 12)
    (fun _ => .er 12)
    (fun _ _ _ _ _ => fun _ => .er 12)
    (fun _ => .er 12)
    (fun _ _ _ => fun _ => .er 12)
    (fun _ => .er 12)
    (fun _ _ => fun _ => .er 12)
    (fun _ _ => fun _ => .er 12)
    (fun _ => fun _ => .er 12)
    () (fun _ _ _ _ => ()) v
/-- by the kind of a value -/
noncomputable def asS (v : AV) : (List UInt8 → R) → R :=
  @AV.rec (fun _ => (List UInt8 → R) → R) (fun _ => Unit)
    (fun _ => .er 13)
    (fun _ => fun _ => .er 13)
    (fun _ _ => fun _ => .er 13)
    (fun l => fun k => k l)
    (fun _ _ => fun _ => .er 13)
    (fun _ => .er 13)
    (fun _ _ _ _ _ => fun _ => .er 13)
    (fun _ => .er 13)
    (fun _ => fun _ => .er 13)
    (fun _ => .er 13)
    (fun _ _ _ _ _ => fun _ => .er 13)
    (fun _ => .er 13)
    (fun _ _ _ => fun _ => .er 13)
    (fun _ => .er 13)
    (fun _ _ => fun _ => .er 13)
    (fun _ _ => fun _ => .er 13)
    (fun _ => fun _ => .er 13)
    () (fun _ _ _ _ => ()) v
/-- by the kind of a value -/
noncomputable def asM (v : AV) : R → (Pn → R) → R :=
  @AV.rec (fun _ => R → (Pn → R) → R) (fun _ => Unit)
    (fun _ _ => .er 14)
    (fun _ => fun _ _ => .er 14)
    (fun _ _ => fun _ _ => .er 14)
    (fun _ => fun _ _ => .er 14)
    (fun _ _ => fun _ _ => .er 14)
    (fun _ _ => .er 14)
    (fun _ _ _ _ _ => fun _ _ => .er 14)
    (fun _ _ => .er 14)
    (fun b => fun _ k => k b)
    (fun e _ => e)
    (fun _ _ _ _ _ => fun _ _ => .er 14)
    (fun _ _ => .er 14)
    (fun _ _ _ => fun _ _ => .er 14)
    (fun _ _ => .er 14)
    (fun _ _ => fun _ _ => .er 14)
    (fun _ _ => fun _ _ => .er 14)
    (fun _ => fun _ _ => .er 14)
    () (fun _ _ _ _ => ()) v
/-- by the kind of a value -/
noncomputable def asSl (v : AV) : R → (Pn → Nat → Nat → Nat → Nat → R) → R :=
  @AV.rec (fun _ => R → (Pn → Nat → Nat → Nat → Nat → R) → R) (fun _ => Unit)
    (fun _ _ => .er 15)
    (fun _ => fun _ _ => .er 15)
    (fun _ _ => fun _ _ => .er 15)
    (fun _ => fun _ _ => .er 15)
    (fun _ _ => fun _ _ => .er 15)
    (fun _ _ => .er 15)
    (fun b o n c x => fun _ k => k b o n c x)
    (fun e _ => e)
    (fun _ => fun _ _ => .er 15)
    (fun _ _ => .er 15)
    (fun _ _ _ _ _ => fun _ _ => .er 15)
    (fun _ _ => .er 15)
    (fun _ _ _ => fun _ _ => .er 15)
    (fun _ _ => .er 15)
    (fun _ _ => fun _ _ => .er 15)
    (fun _ _ => fun _ _ => .er 15)
    (fun _ => fun _ _ => .er 15)
    () (fun _ _ _ _ => ()) v
/-- by the kind of a value -/
noncomputable def asAg (v : AV) : (List AV → R) → R :=
  @AV.rec (fun _ => (List AV → R) → R) (fun _ => Unit)
    (fun _ => .er 16)
    (fun _ => fun _ => .er 16)
    (fun _ _ => fun _ => .er 16)
    (fun _ => fun _ => .er 16)
    (fun _ _ => fun _ => .er 16)
    (fun _ => .er 16)
    (fun _ _ _ _ _ => fun _ => .er 16)
    (fun _ => .er 16)
    (fun _ => fun _ => .er 16)
    (fun _ => .er 16)
    (fun _ _ _ _ _ => fun _ => .er 16)
    (fun _ => .er 16)
    (fun _ _ _ => fun _ => .er 16)
    (fun _ => .er 16)
    (fun l _ => fun k => k l)
    (fun _ _ => fun _ => .er 16)
    (fun _ => fun _ => .er 16)
    () (fun _ _ _ _ => ()) v
/-- by the kind of a value -/
noncomputable def asTu (v : AV) : (List AV → R) → R :=
  @AV.rec (fun _ => (List AV → R) → R) (fun _ => Unit)
    (fun _ => .er 17)
    (fun _ => fun _ => .er 17)
    (fun _ _ => fun _ => .er 17)
    (fun _ => fun _ => .er 17)
    (fun _ _ => fun _ => .er 17)
    (fun _ => .er 17)
    (fun _ _ _ _ _ => fun _ => .er 17)
    (fun _ => .er 17)
    (fun _ => fun _ => .er 17)
    (fun _ => .er 17)
    (fun _ _ _ _ _ => fun _ => .er 17)
    (fun _ => .er 17)
    (fun _ _ _ => fun _ => .er 17)
    (fun _ => .er 17)
    (fun _ _ => fun _ => .er 17)
    (fun l _ => fun k => k l)
    (fun _ => fun _ => .er 17)
    () (fun _ _ _ _ => ()) v
/-- by the kind of a value -/
noncomputable def asIfc (v : AV) : R → (TypeId → AV → R) → R :=
  @AV.rec (fun _ => R → (TypeId → AV → R) → R) (fun _ => Unit)
    (fun _ _ => .er 18)
    (fun _ => fun _ _ => .er 18)
    (fun _ _ => fun _ _ => .er 18)
    (fun _ => fun _ _ => .er 18)
    (fun _ _ => fun _ _ => .er 18)
    (fun _ _ => .er 18)
    (fun _ _ _ _ _ => fun _ _ => .er 18)
    (fun _ _ => .er 18)
    (fun _ => fun _ _ => .er 18)
    (fun _ _ => .er 18)
    (fun _ _ _ _ _ => fun _ _ => .er 18)
    (fun _ _ => .er 18)
    (fun t v _ => fun _ k => k t v)
    (fun e _ => e)
    (fun _ _ => fun _ _ => .er 18)
    (fun _ _ => fun _ _ => .er 18)
    (fun _ => fun _ _ => .er 18)
    () (fun _ _ _ _ => ()) v
/-- by the kind of a value -/
noncomputable def cellsK (v : AV) : (List AV → R) → R :=
  @AV.rec (fun _ => (List AV → R) → R) (fun _ => Unit)
    (fun _ => .er 2)
    (fun x0 => fun k => k [AV.b x0])
    (fun x0 x1 => fun k => k [AV.i x0 x1])
    (fun x0 => fun k => k [AV.s x0])
    (fun x0 x1 => fun k => k [AV.p x0 x1])
    (fun k => k [AV.np])
    (fun x0 x1 x2 x3 x4 => fun k => k [AV.sl x0 x1 x2 x3 x4])
    (fun k => k [AV.ns])
    (fun x0 => fun k => k [AV.m x0])
    (fun k => k [AV.nm])
    (fun x0 x1 x2 _ _ => fun k => k [AV.f x0 x1 x2])
    (fun k => k [AV.nf])
    (fun x0 x1 _ => fun k => k [AV.ifc x0 x1])
    (fun k => k [AV.ni])
    (fun l _ => fun k => k l)
    (fun x0 _ => fun k => k [AV.tu x0])
    (fun x0 => fun k => k [AV.y x0])
    () (fun _ _ _ _ => ()) v
end Ax
end Go.Proofs.YtnnhkajjifmlfaaDoor
