/- THE EXECUTOR: regions that draw their order, code, bodies. -/
import Derived.Test.YtnnhkajjifmlfaaDoorX2
namespace Go.Proofs.YtnnhkajjifmlfaaDoor
namespace Ax

/-- two values are one -/
noncomputable def fneq (a b : Fn) : Bool := match a with
  | .func g => match b with
    | .func g' => Nat.beq g g'
    | _ => false
  | _ => false
def ieqK (k q : IntKind) : Bool := Nat.beq (kidx k) (kidx q)
/-- equality of values as far as it is asked: scalars, addresses, lists of them -/
noncomputable def aeq1 (u v : AV) : Bool := match u with
  | .b x => match v with
    | .b y => beq x y
    | _ => false
  | .i k x => match v with
    | .i q y => ieqK k q && ieq x y
    | _ => false
  | .s x => match v with
    | .s y => seq x y
    | _ => false
  | .p x o => match v with
    | .p y q => x.eq y && Nat.beq o q
    | _ => false
  | .np => match v with
    | .np => true
    | _ => false
  | .sl x o n c e => match v with
    | .sl y p m d g => x.eq y && Nat.beq o p && Nat.beq n m && Nat.beq c d && Nat.beq e g
    | _ => false
  | .ns => match v with
    | .ns => true
    | _ => false
  | .m x => match v with
    | .m y => x.eq y
    | _ => false
  | .nm => match v with
    | .nm => true
    | _ => false
  | .nf => match v with
    | .nf => true
    | _ => false
  | .ni => match v with
    | .ni => true
    | _ => false
  | .f g [] [] => match v with
    | .f g' [] [] => fneq g g'
    | _ => false
  | .ifc t (.i k x) => match v with
    | .ifc t' (.i q y) => Nat.beq t t' && ieqK k q && ieq x y
    | _ => false
  | .ifc t (.p x o) => match v with
    | .ifc t' (.p y q) => Nat.beq t t' && x.eq y && Nat.beq o q
    | _ => false
  | .ifc t .z => match v with
    | .ifc t' .z => Nat.beq t t'
    | _ => false
  | .ifc t (.s x) => match v with
    | .ifc t' (.s y) => Nat.beq t t' && seq x y
    | _ => false
  | .z => match v with
    | .z => true
    | _ => false
  | .f (.func g) [] (.p x o :: []) => match v with
    | .f (.func g') [] (.p y q :: []) => Nat.beq g g' && x.eq y && Nat.beq o q
    | _ => false
  | _ => false
noncomputable def aeqs (x : List AV) : List AV → Bool :=
  List.rec (motive := fun _ => List AV → Bool) (fun y => List.rec true (fun _ _ _ => false) y)
    (fun a _ ih y => List.rec false (fun b y _ => Bool.rec false (ih y) (aeq1 a b)) y) x
noncomputable def aeq (u v : AV) : Bool := match u with
  | .ag x => match v with
    | .ag y => aeqs x y
    | _ => false
  | .tu x => match v with
    | .tu y => aeqs x y
    | _ => false
  | _ => aeq1 u v

/-- what is read within a window -/
structure Ck where
  lo : Nat
  hi : Nat
  f : Tr AO → (AV → R) → R
  v : AV
abbrev Pend := List (Nat × Pn × AO)
/-- the pending blocks that are due are laid -/
noncomputable def layP (i : Nat) (l : Pend) : Tr AO → (Pend → Tr AO → R) → R :=
  List.rec (motive := fun _ => Tr AO → (Pend → Tr AO → R) → R) (fun h k => k [] h)
    (fun e _ ih h k => Bool.rec (ih h fun l h => k (e :: l) h) (h.setK .x e.2.2 e.2.1 fun h => ih h k) (Nat.ble e.1 i)) l
noncomputable def ckWin (c : Ck) (l : List (Tr AO)) : Nat → (Unit → R) → R :=
  List.rec (motive := fun _ => Nat → (Unit → R) → R) (fun _ k => k ())
    (fun h _ ih i k => Bool.rec (ih (i + 1) k) (c.f h fun v => ifK (aeq v c.v) 250 fun _ => ih (i + 1) k) (Nat.ble c.lo i && Nat.ble i c.hi)) l
noncomputable def ckAll (l : List Ck) (hs : List (Tr AO)) : (Unit → R) → R :=
  List.rec (motive := fun _ => (Unit → R) → R) (fun k => k ()) (fun c _ ih k => ckWin c hs 0 fun _ => ih k) l

/-- what is carried along: so many effects are done; the heaps ahead of them, the last first; the pending blocks; what is to be looked at again -/
structure Dr where
  kc : Nat
  sn : List (Tr AO)
  pd : Pend
  ck : List Ck
abbrev KD := Tr AV → List AD → Tr AO → Pn → Dr → R
noncomputable def bump (s : Dr) (h : Tr AO) (pd : Pend) : Dr := { kc := s.kc + 1, sn := h :: s.sn, pd, ck := s.ck }
noncomputable def dPu (f : Tr AV → (AV → R) → R) (d : Option Pn) (tm : Tr AV) (df : List AD) (h : Tr AO) (n : Pn) (s : Dr) (k : KD) : R :=
  f tm fun v => put d v tm fun tm => k tm df h n s
noncomputable def dRd (f : Tr AV → Tr AO → (AV → R) → R) (o : DO) (tm : Tr AV) (df : List AD) (h : Tr AO) (n : Pn) (s : Dr) (k : KD) : R :=
  f tm h fun v => put o.c.d v tm fun tm' => k tm' df h n (Bool.rec { s with ck := { lo := o.lo, hi := o.hi, f := f tm, v } :: s.ck } s (Nat.beq o.lo o.hi))
noncomputable def dAl (f : Tr AV → Pn → (AV → AO → R) → R) (o : DO) (tm : Tr AV) (df : List AD) (h : Tr AO) (n : Pn) (s : Dr) (k : KD) : R :=
  f tm n fun v b => put o.c.d v tm fun tm => k tm df h n.succ { s with pd := (o.hi, n, b) :: s.pd }
noncomputable def dEf (f : Bd → Tr AV → Tr AO → Pn → (AV → Tr AO → Pn → R) → R) (d : Option Pn) (B : Bd) (tm : Tr AV) (df : List AD) (h : Tr AO) (n : Pn) (s : Dr) (k : KD) : R :=
  layP s.kc s.pd h fun pd h' => f B tm h' n fun v h'' n => put d v tm fun tm => k tm df h'' n (bump s h pd)
noncomputable def dDe (f : Tr AV → (AD → R) → R) (d : Option Pn) (tm : Tr AV) (df : List AD) (h : Tr AO) (n : Pn) (s : Dr) (k : KD) : R :=
  layP s.kc s.pd h fun pd h' => f tm fun a => put d (.tu []) tm fun tm => k tm (a :: df) h' n (bump s h pd)
noncomputable def dNo (o : DO) (tm : Tr AV) (df : List AD) (h : Tr AO) (n : Pn) (s : Dr) (k : KD) : R :=
  put o.c.d (.tu []) tm fun tm => Bool.rec (k tm df h n s) (layP s.kc s.pd h fun pd h' => k tm df h' n (bump s h pd)) (isEff o.c.c)
noncomputable def runD1 (o : DO) (B : Bd) (tm : Tr AV) (df : List AD) (h : Tr AO) (n : Pn) (s : Dr) (k : KD) : R :=
  (COp.rec (motive := fun _ => DO → Bd → Tr AV → List AD → Tr AO → Pn → Dr → KD → R)
    (fun f o _ => dPu f o.c.d) (fun f o _ => dRd f o) (fun f o _ => dAl f o) (fun f o B => dEf f o.c.d B) (fun f o _ => dDe f o.c.d)
    (fun c _ _ _ _ _ _ _ _ => .er c) o.c.c) o B tm df h n s k
noncomputable def stepD (o : DO) (ih : Bd → Tr AV → List AD → Tr AO → Pn → Dr → KD → R) (B : Bd) (tm : Tr AV) (df : List AD) (h : Tr AO) (n : Pn) (s : Dr) (k : KD) : R :=
  gd o.c.g tm (runD1 o B tm df h n s fun tm df h n s => ih B tm df h n s k) (dNo o tm df h n s fun tm df h n s => ih B tm df h n s k)
noncomputable def drwL (l : List DO) : Bd → Tr AV → List AD → Tr AO → Pn → Dr → KD → R :=
  List.rec (motive := fun _ => Bd → Tr AV → List AD → Tr AO → Pn → Dr → KD → R) (fun _ tm df h n s k => k tm df h n s) (fun o _ ih => stepD o ih) l
noncomputable def drw (l : List DO) (B : Bd) (tm : Tr AV) (df : List AD) (h : Tr AO) (n : Pn) (k : K3) : R :=
  drwL l B tm df h n { kc := 0, sn := [], pd := [], ck := [] } fun tm df h n s =>
    ckAll s.ck (h :: s.sn).reverse fun _ => layP s.kc s.pd h fun _ h => k tm df h n

/-- the temporaries that an operation looks at -/
def looks (ops : List Oper) (o : Oper) : List Tmp :=
  (o.op.operands.toList.filterMap fun | .tmp t => some t | _ => none) ++ (match o.guard with
    | some (j, _) => ((ops[j]?).bind (·.dst)).toList
    | none => [])
def mentions (ops : List Oper) (o : Oper) : List Tmp := o.dst.toList ++ looks ops o
/-- whoever writes what another names stands in order with it -/
def apart (ops : List Oper) (x y : Oper) : Bool :=
  (match x.dst with | some t => !(mentions ops y).contains t | none => true) && (match y.dst with | some t => !(mentions ops x).contains t | none => true)
def tempsRow (ops : List Oper) (y : Oper) (b : Nat) : List Oper → Nat → Bool
  | [], _ => true
  | x :: r, i => (b.testBit i || apart ops x y) && tempsRow ops y b r (i + 1)
def tempsOk (ops : List Oper) (bs : List Nat) : List Oper → Nat → Bool
  | [], _ => true
  | y :: r, j => tempsRow ops y (bs.getD j 0) (ops.take j) 0 && tempsOk ops bs r (j + 1)
/-- edges that bind point back; a guard's is among them -/
def edgesOk : List Oper → Nat → Bool
  | [], _ => true
  | o :: r, i => (o.after.toList.all fun e => !Region.binds .any e || Nat.ble (e.on + 1) i) && edgesOk r (i + 1)
noncomputable def drawOf (cs : List CO) (ops : List Oper) : Option (List DO) :=
  let bs := befores ops []
  let es := effs cs 0
  match chain bs es && tempsOk ops bs ops 0 && edgesOk ops 0 with
  | true => some (dosOf bs es cs 0)
  | false => none

/-! ### code -/
inductive CD where
  | sk
  | bad (c : Nat)
  | rg (l : List CO)
  | dr (l : List DO)
  | sq (a b : CD)
  | cd (x : Operand) (a b : CD)
  | bl (id : Nat) (b : CD)
  | lp (b : CD)
  | ex (id : Nat)
  | rt
  | rf (x : Operand) (nt : Nat) (ps : List Nat) (assign body : Code)
noncomputable def cdOf (E : Env) (ix : FuncId → Option Ix) (nt : Nat) (ro : Bool) : Code → CD
  | .skip => .sk
  | .label _ => .sk
  | .region _ ops false => .rg (cosOf E ix nt ro ops.toList ops.toList)
  | .region _ ops true => match drawOf (cosOf E ix nt ro ops.toList ops.toList) ops.toList with
    | some l => .dr l
    | none => .bad 251
  | .seq a b => .sq (cdOf E ix nt ro a) (cdOf E ix nt ro b)
  | .cond c a b => match gOk1 E c with
    | true => .cd c (cdOf E ix nt ro a) (cdOf E ix nt ro b)
    | false => .bad 266
  | .block id b => .bl id (cdOf E ix nt ro b)
  | .loop b => .lp (cdOf E ix nt ro b)
  | .exit id => .ex id
  | .ret => .rt
  | .rangeFunc f ps assign body => match ro || !gOk1 E f with
    | true => .bad 263
    | false => .rf f nt ps.toList assign body
  | _ => .bad 262

abbrev CR := Bd → Tr AV → List AD → Tr AO → Pn → R
noncomputable def sqK (r : R) (y : Tr AV → List AD → Tr AO → Pn → R) : R := match r with
  | .nm tm df h n => y tm df h n
  | r => r
noncomputable def blK (id : Nat) (r : R) : R := match r with
  | .ex j tm df h n => Bool.rec (.ex j tm df h n) (.nm tm df h n) (Nat.beq j id)
  | r => r
noncomputable def loopN (b : CR) (n : Nat) : CR :=
  Nat.rec (motive := fun _ => CR) (fun _ _ _ _ _ => .er 260) (fun _ ih B tm df h m => sqK (b B tm df h m) fun tm df h m => ih B tm df h m) n
def pendK (p : Option Code) (tm : Tr AV) (df : List AD) (h : Tr AO) (n : Pn) : R := match p with
  | none => .nm tm df h n
  | some .ret => .rt tm df h n
  | some (.exit id) => .ex id tm df h n
  | some _ => .er 265
/-- a range's function: one with a body -/
noncomputable def rfF (E : Env) (fv : AV) (us : List AV) (B : Bd) (h : Tr AO) (n : Pn) (k : AV → Tr AO → Pn → R) : R :=
  match fv with
  | .f (.func g) a c => callB E g (a ++ us ++ c) B h n k
  | _ => .er 174
noncomputable def rfK (E : Env) (x : Operand) (nt : Nat) (ps : List Nat) (assign body : Code) (B : Bd) (tm : Tr AV) (df : List AD) (h : Tr AO) (n : Pn) : R :=
  opd x tm fun fv => newK h n (.dq false) fun h n1 => newK h n1 (.lp 0 none nt tm ps assign body n) fun h n2 =>
    rfF E fv [.y n1] B h n2 fun _ h m => h.getK .x n1 fun o => lpK o fun s pend nt tm0 ps a b dq =>
      Bool.rec (h.setK .x (.lp 3 pend nt tm0 ps a b dq) n1 fun h => pendK pend tm (.mk n :: df) h m) (.er 264) (Nat.beq s 1)
noncomputable def run (E : Env) (c : CD) : CR :=
  CD.rec (motive := fun _ => CR) (fun _ tm df h n => .nm tm df h n) (fun c _ _ _ _ _ => .er c)
    (fun l B tm df h n => runL l B tm df h n .nm) (fun l B tm df h n => drw l B tm df h n .nm)
    (fun _ _ x y B tm df h n => sqK (x B tm df h n) fun tm df h n => y B tm df h n)
    (fun c _ _ x y B tm df h n => opd c tm fun v => asB v (x B tm df h n) (y B tm df h n))
    (fun id _ x B tm df h n => blK id (x B tm df h n))
    (fun _ x => loopN x 1000000)
    (fun id _ tm df h n => .ex id tm df h n) (fun _ tm df h n => .rt tm df h n)
    (fun x nt ps a b => rfK E x nt ps a b) c
noncomputable def argsT (l : List AV) : Pn → Tr AV → (Tr AV → R) → R :=
  List.rec (motive := fun _ => Pn → Tr AV → (Tr AV → R) → R) (fun _ t k => k t) (fun v _ ih p t k => t.setK (.tu []) v p fun t => ih p.succ t k) l
/-- each function's code, compiled -/
noncomputable def codeOf (E : Env) (ix : FuncId → Option Ix) (f : FuncId) : Nat × CD :=
  match E.fn f with
  | some fn => match fn.body with
    | some c => (fn.ntmps, cdOf E ix fn.ntmps false c)
    | none => (0, .bad 271)
  | none => (0, .bad 272)
noncomputable def bodyK (E : Env) (c : Nat × CD) (B : Bd) (us : List AV) (h : Tr AO) (n : Pn) : R :=
  ifK (Nat.ble us.length c.1) 270 fun _ => argsT us .one .leaf fun tm => run E c.2 B tm [] h n
noncomputable def bdS (E : Env) (ix : FuncId → Option Ix) (code : FuncId → Nat × CD) (B : Bd) : Bd := fun q =>
  Rq.rec (fun f us h n => bodyK E (code f) B us h n) (fun nt c tm h n => run E (cdOf E ix nt true c) B tm [] h n) q
noncomputable def bd (E : Env) (ix : FuncId → Option Ix) (code : FuncId → Nat × CD) (n : Nat) : Bd :=
  Nat.rec (motive := fun _ => Bd) (fun _ _ _ => .er 273) (fun _ B => bdS E ix code B) n
/-- a law's answer is true -/
noncomputable def trueK (E : Env) (ix : FuncId → Option Ix) (B : Bd) (f : FuncId) (h : Tr AO) (n : Pn) : R :=
  callK E ix f [] B h n fun v h n => asB v (.nm .leaf [] h n) (.er 280)
def okR (r : R) : Bool := match r with
  | .er _ => false
  | _ => true
def erc (r : R) : Nat := match r with
  | .er c => c
  | _ => 9999
end Ax
end Go.Proofs.YtnnhkajjifmlfaaDoor
