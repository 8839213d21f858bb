/- THE EXECUTOR: memory, maps, calls, code. -/
import Derived.Test.YtnnhkajjifmlfaaDoorX1
namespace Go.Proofs.YtnnhkajjifmlfaaDoor
namespace Ax

/-! ### stores, append, copy, conversions -/
/-- what fits in one cell -/
def scal (v : AV) : Bool := match v with
  | .z => false
  | .ag _ => false
  | .tu _ => false
  | _ => true
noncomputable def scals (l : List AV) : Bool := List.rec true (fun a _ ih => Bool.rec false ih (scal a)) l
/-- cells laid at a place -/
noncomputable def stc (h : Tr AO) (b : Pn) (o : Nat) (xs : List AV) (k : Tr AO → R) : R :=
  ifK (scals xs) 109 fun _ => wblkK h b fun l ty fz => putK xs l o fun l => h.setK .x (.c l ty fz) b k
noncomputable def st (i : TI) (h : Tr AO) (a v : AV) (k : Tr AO → R) : R :=
  asP a fun b o => cellsK v fun xs => ifK (Nat.beq xs.length i.size) 113 fun _ => stc h b o xs k
noncomputable def byteCells (l : List UInt8) : List AV := List.rec [] (fun a _ ih => .i .u8 (.ofNat a.toNat) :: ih) l
/-- what an appended operand holds: so many elements, their cells -/
noncomputable def srcK (sz : Nat) (h : Tr AO) (x : AV) (k : Nat → List AV → R) : R :=
  Bool.rec (asSl x (k 0 []) fun b o n _ _ => blkK h b fun l _ _ => cutK l o (n * sz) fun r => k n r)
    (asS x fun l => ifK (Nat.beq sz 1) 110 fun _ => k l.length (byteCells l)) (isS x)
def roomy (need bytes : Nat) : Bool := Nat.ble (need * bytes) 1099511627776 && Nat.ble bytes 1073741824 && Nat.ble 1 bytes
/-- a block laid -/
noncomputable def newK (h : Tr AO) (n : Pn) (o : AO) (k : Tr AO → Pn → R) : R := h.setK .x o n fun h => k h n.succ
noncomputable def growK (e : TypeId) (sz ex : Nat) (b : Pn) (cs : List AV) (len : Nat) (h : Tr AO) (n : Pn) (k : AV → Tr AO → Pn → R) : R :=
  Bool.rec (wblkK h b fun _ _ _ => h.setK .x .x b fun h => newK h n (.c cs e true) fun h n' => k (.sl n 0 len len sz) h n')
    (newK h n (.c cs e false) fun h n' => k (.sl n 0 len len sz) h n') (Nat.beq ex 0)
noncomputable def append (j : TI) (e : TypeId) (s x : AV) (h : Tr AO) (n : Pn) (k : AV → Tr AO → Pn → R) : R :=
  srcK j.size h x fun m xs =>
    asSl s (Nat.rec (k .ns h n) (fun _ _ => ifK (roomy m j.bytes) 111 fun _ => newK h n (.c xs e false) fun h n' => k (.sl n 0 m m j.size) h n') m)
      fun b o l c ex => Bool.rec
        (ifK (roomy (l + m) j.bytes) 111 fun _ => blkK h b fun cs ty _ => ifK (Nat.beq ex 0 || (Nat.beq ex j.size && Nat.beq ty e && scals xs)) 117 fun _ => cutK cs o (l * j.size) fun old => growK e j.size ex b (old ++ xs) (l + m) h n k)
        (Nat.rec (k (.sl b o l c ex) h n) (fun _ _ => stc h b (o + l * j.size) xs fun h => k (.sl b o (l + m) c ex) h n) m)
        (Nat.ble (l + m) c)
noncomputable def copyK (sz : Nat) (d x : AV) (h : Tr AO) (k : AV → Tr AO → R) : R :=
  srcK sz h x fun m xs => asSl d (k (.i .i64 (.ofNat 0)) h)
    fun b o n _ _ => takeK xs (Nat.min m n * sz) fun xs => Nat.rec (k (.i .i64 (.ofNat 0)) h) (fun q _ => stc h b o xs fun h => k (.i .i64 (.ofNat (q + 1))) h) (Nat.min m n)
noncomputable def toBytes (l : List AV) : (List UInt8 → R) → R :=
  List.rec (motive := fun _ => (List UInt8 → R) → R) (fun k => k []) (fun a _ ih k => asI a fun q z => ifK (Nat.beq (kidx q) 4) 115 fun _ => natK z 116 fun m => ih fun r => k (UInt8.ofNat m :: r)) l
noncomputable def strOf (h : Tr AO) (x : AV) (k : AV → R) : R :=
  asSl x (k (.s [])) fun b o n _ _ => blkK h b fun l _ _ => cutK l o n fun cs => toBytes cs fun r => k (.s r)
def kd (d : TypeDesc) : Nat := match d with
  | .int _ => 1 | .string => 2 | .slice _ => 3 | .pointer _ => 4 | .unsafePointer => 5 | _ => 0
def kindOf (d : TypeDesc) : IntKind := match d with | .int k => k | _ => .i64
def isByte (E : Env) (e : TypeId) : Bool := match E.ti e with
  | some j => match j.d with
    | .int .u8 => Nat.beq j.size 1
    | _ => false
  | none => false
def elemT (d : TypeDesc) : TypeId := match d with | .slice e => e | .pointer e => e | _ => 0
noncomputable def convC (E : Env) (s d : TypeId) (x : Operand) : COp :=
  match E.ti s, E.ti d with
  | some i, some j => match kd i.d, kd j.d with
    | 1, 1 => .pu fun tm k => opd x tm fun v => asI v fun _ a => k (.i (kindOf j.d) (wr (kindOf j.d) a))
    | 1, 2 => .pu fun tm k => opd x tm fun v => asI v fun _ a => k (.s (Utf8.encode a).data.toList)
    | 2, 2 => .pu fun tm k => opd x tm fun v => asS v fun l => k (.s l)
    | 2, 3 => match isByte E (elemT j.d) with
      | true => .al fun tm n k => opd x tm fun v => asS v fun l => k (.sl n 0 l.length l.length 1) (.c (byteCells l) (elemT j.d) true)
      | false => .no 123
    | 3, 2 => match isByte E (elemT i.d) with
      | true => .rd fun tm h k => opd x tm fun v => strOf h v k
      | false => .no 124
    | 3, 3 => match Nat.beq s d && isByte E (elemT i.d) with
      | true => .ef fun _ tm h n k => opd x tm fun v => asSl v (.er 119) fun b o m c ex => wblkK h b fun l ty _ => h.setK .x (.c l ty true) b fun h => k (.sl b o m c ex) h n
      | false => .no 118
    | 4, 5 => match E.ti (elemT i.d) with
      | some e => match Nat.beq e.size 0 with
        | true => .no 126
        | false => .rd fun tm h k => opd x tm fun v => asP v fun b o => blkK h b fun l _ _ => ifK (Nat.ble (o + 1) l.length) 125 fun _ => k (.p b o)
      | none => .no 126
    | 5, 4 => match E.ti (elemT j.d) with
      | some e => match Nat.beq e.size 0 with
        | true => .no 126
        | false => .rd fun tm h k => opd x tm fun v => asP v fun b o => blkK h b fun l ty fz => ifK (Nat.beq o 0 && Nat.beq ty (elemT j.d) && Nat.ble e.size l.length && !fz) 127 fun _ => k (.p b o)
      | none => .no 126
    | _, _ => .no 128
  | _, _ => .no 129

/-! ### maps -/
abbrev Eq2 := AV → AV → (Bool → R) → R
/-- '==' of keys: of numbers, strings, bools alone -/
noncomputable def keyEq (E : Env) (kt : TypeId) : Option Nat :=
  match E.ti kt with
  | none => none
  | some i => match i.d with
    | .int _ => some 2
    | .string => some 3
    | .bool => some 1
    | _ => none
abbrev Ents := List (AV × AV × Option Nat)
noncomputable def findK (eq : AV → AV → (Bool → R) → R) (key : AV) (l : Ents) : Nat → Option (Nat × AV) → (Option (Nat × AV) → R) → R :=
  List.rec (motive := fun _ => Nat → Option (Nat × AV) → (Option (Nat × AV) → R) → R) (fun _ r k => k r)
    (fun e _ ih i r k => eq key e.1 fun t => Bool.rec (ih (i + 1) r k) (Option.rec (ih (i + 1) (some (i, e.2.1)) k) (fun _ => .er 131) r) t) l
noncomputable def setE (key x : AV) (l : Ents) : Nat → Ents :=
  List.rec (motive := fun _ => Nat → Ents) (fun _ => []) (fun e r ih i => Nat.rec ((key, x, e.2.2) :: r) (fun i _ => e :: ih i) i) l
noncomputable def delE (l : Ents) : Nat → Ents :=
  List.rec (motive := fun _ => Nat → Ents) (fun _ => []) (fun e r ih i => Nat.rec r (fun i _ => e :: ih i) i) l
noncomputable def lookupC (E : Env) (t : TypeId) (x ix : Operand) (ok : Bool) : COp :=
  match E.ti t with
  | some i => match i.d with
    | .map kt e => match keyEq E kt, E.ti e with
      | some kd, some j => .rd fun tm h k => opd x tm fun v => opd ix tm fun key =>
        asM v (k (Bool.rec j.zv (.tu [j.zv, .b false]) ok)) fun b => mapK h b fun l _ => findK (plEq kd) key l 0 none fun r =>
          Option.rec (k (Bool.rec j.zv (.tu [j.zv, .b false]) ok)) (fun q => k (Bool.rec q.2 (.tu [q.2, .b true]) ok)) r
      | _, _ => .no 132
    | _ => .no 133
  | none => .no 134
noncomputable def updK (kd : Nat) (v key x : AV) (h : Tr AO) (k : Tr AO → R) : R :=
  asM v (.er 135) fun b => mapK h b fun l c => findK (plEq kd) key l 0 none fun r =>
    Option.rec (h.setK .x (.mp (l ++ [(key, x, some c)]) (c + 1)) b k) (fun q => h.setK .x (.mp (setE key x l q.1) c) b k) r
noncomputable def updC (E : Env) (t : TypeId) (m key x : Operand) : COp :=
  match E.ti t with
  | some i => match i.d with
    | .map kt _ => match keyEq E kt with
      | some kd => .ef fun _ tm h n k => opd m tm fun v => opd key tm fun key => opd x tm fun x => updK kd v key x h fun h => k (.tu []) h n
      | none => .no 136
    | _ => .no 137
  | none => .no 138
noncomputable def delK (kd : Nat) (v key : AV) (h : Tr AO) (k : Tr AO → R) : R :=
  asM v (.er 139) fun b => mapK h b fun l c => findK (plEq kd) key l 0 none fun r =>
    Option.rec (k h) (fun q => h.setK .x (.mp (delE l q.1) c) b k) r
noncomputable def rangeC (E : Env) (t : TypeId) (x : Operand) : COp :=
  match E.ti t with
  | some i => match i.d with
    | .map _ _ => .ef fun _ tm h n k => opd x tm fun v => asM v (newK h n (.mi none 0 [] 0) fun h n' => k (.p n 0) h n')
        fun b => mapK h b fun _ c => newK h n (.mi (some b) c [] c) fun h n' => k (.p n 0) h n'
    | _ => .no 142
  | none => .no 143
def aoI (o : AO) : (Option Pn → Nat → List Nat → Nat → R) → R := match o with
  | .mi m s l c => fun k => k m s l c
  | _ => fun _ => .er 149
/-- one round of a range over a map of at most one entry -/
noncomputable def next1 (m : Pn) (since : Nat) (seen : List Nat) (last : Nat) (b : Pn) (h : Tr AO) (k : AV → Tr AO → R) : R :=
  mapK h m fun l c => match l, seen with
    | [], _ => k (.tu [.b false]) h
    | [(key, x, some born)], [] => ifK (Nat.ble (born + 1) since) 145 fun _ => h.setK .x (.mi (some m) since [born] c) b fun h => k (.tu [.b true, key, x]) h
    | [(_, _, some born)], [s] => ifK (Nat.beq s born && Nat.ble (born + 1) last) 146 fun _ => k (.tu [.b false]) h
    | _, _ => .er 148
noncomputable def nextC (it : Operand) (isString : Bool) : COp :=
  match isString with
  | true => .no 144
  | false => .ef fun _ tm h n k => opd it tm fun v => asP v fun b o => ifK (Nat.beq o 0) 150 fun _ => h.getK .x b fun o => aoI o fun m since seen last =>
      Option.rec (k (.tu [.b false]) h n) (fun m => next1 m since seen last b h fun v h => k v h n) m
noncomputable def entry1 (m : Pn) (seen : List Nat) (last : Nat) (h : Tr AO) (k : AV → R) : R :=
  mapK h m fun l c => match l, seen with
    | [(key, x, some s)], [born] => ifK (Nat.beq s born && Nat.beq c last) 151 fun _ => k (.tu [key, x])
    | _, _ => .er 152
noncomputable def entryC (it : Operand) : COp :=
  .rd fun tm h k => opd it tm fun v => asP v fun b o => ifK (Nat.beq o 0) 150 fun _ => h.getK .x b fun o => aoI o fun m _ seen last =>
    Option.rec (.er 153) (fun m => entry1 m seen last h k) m

/-! ### interfaces -/
noncomputable def typeAssertC (E : Env) (x : Operand) (asserted : TypeId) (ok : Bool) : COp :=
  match E.ti asserted with
  | some i => match i.d with
    | .interface _ => .no 160
    | _ => .pu fun tm k => opd x tm fun v => asIfc v (Bool.rec (.er 161) (k (.tu [i.zv, .b false])) ok)
        fun t y => Bool.rec (Bool.rec (.er 162) (k (.tu [i.zv, .b false])) ok) (k (Bool.rec y (.tu [y, .b true]) ok)) (Nat.beq t asserted)
  | none => .no 164

/-! ### calls -/
noncomputable def resK (E : Env) (l : List ResultVar) : Tr AV → Tr AO → (List AV → R) → R :=
  List.rec (motive := fun _ => Tr AV → Tr AO → (List AV → R) → R) (fun _ _ k => k [])
    (fun r _ ih tm h k => ResultVar.rec (fun t => opT t tm fun v => ih tm h fun l => k (v :: l))
      (fun a t => Option.rec (.er 170) (fun i => opT a tm fun v => ld i h v fun x => ih tm h fun l => k (x :: l)) (E.ti t)) r) l
def oneV (l : List AV) : AV := match l with
  | [v] => v
  | l => .tu l
def dqK (o : AO) : (Unit → R) → R := match o with
  | .dq false => fun k => k ()
  | _ => fun _ => .er 175
/-- a body that ends without deferred calls -/
def bareK (r : R) : (Tr AO → Pn → R) → R := match r with
  | .nm _ [] h n => fun k => k h n
  | .rt _ [] h n => fun k => k h n
  | .er c => fun _ => .er c
  | _ => fun _ => .er 171
noncomputable def runD (B : Bd) (l : List AD) : Tr AO → Pn → (Tr AO → Pn → R) → R :=
  List.rec (motive := fun _ => Tr AO → Pn → (Tr AO → Pn → R) → R) (fun h n k => k h n)
    (fun d _ ih h n k => AD.rec (fun g us => bareK (B (.fn g us) h n) fun h n => ih h n k)
      (fun b => h.getK .x b fun o => dqK o fun _ => h.setK .x (.dq true) b fun h => ih h n k) d) l
/-- a function whose body has been run: its deferred calls, its results -/
noncomputable def endK (E : Env) (fn : Func) (B : Bd) (tm : Tr AV) (df : List AD) (h : Tr AO) (n : Pn) (k : AV → Tr AO → Pn → R) : R :=
  runD B df h n fun h n => resK E fn.results.toList tm h fun l => k (oneV l) h n
/-- a body's end, however it came -/
def leftK (r : R) : (Tr AV → List AD → Tr AO → Pn → R) → R := match r with
  | .nm tm df h n => fun k => k tm df h n
  | .rt tm df h n => fun k => k tm df h n
  | .er c => fun _ => .er c
  | .ex _ _ _ _ _ => fun _ => .er 173

/-- what is done in a function's place -/
abbrev Ix := List AV → Tr AO → Pn → (AV → Tr AO → Pn → R) → R
/-- a call of a function with a body -/
noncomputable def callB (E : Env) (f : FuncId) (us : List AV) (B : Bd) (h : Tr AO) (n : Pn) (k : AV → Tr AO → Pn → R) : R :=
  match E.fn f with
  | none => .er 172
  | some fn => match fn.body with
    | none => .er (1000 + f)
    | some _ => leftK (B (.fn f us) h n) fun tm df h n => endK E fn B tm df h n k
noncomputable def callK (E : Env) (ix : FuncId → Option Ix) (f : FuncId) (us : List AV) (B : Bd) (h : Tr AO) (n : Pn) (k : AV → Tr AO → Pn → R) : R :=
  match ix f with
  | some g => g us h n k
  | none => callB E f us B h n k
/-- a method of a dynamic type, met without a detour; with a type: the receiver is loaded -/
def mth (E : Env) (t : TypeId) (name : String) : Option (FuncId × Option TI) :=
  match E.P.info? t with
  | some i => match i.methods.find? (·.name == name) with
    | some m => match m.path.toList, m.func with
      | [], some (f, pr) => match E.P.underlying t, pr with
        | some (.pointer _), true => some (f, none)
        | some (.pointer e), false => match E.ti e with
          | some j => some (f, some j)
          | none => none
        | some _, false => some (f, none)
        | _, _ => none
      | _, _ => none
    | none => none
  | none => none
def lpK (o : AO) : (Nat → Option Code → Nat → Tr AV → List Nat → Code → Code → Pn → R) → R := match o with
  | .lp st pend nt tm ps a b dq => fun k => k st pend nt tm ps a b dq
  | _ => fun _ => .er 167
noncomputable def parsK (nt : Nat) (ps : List Nat) : List AV → Tr AV → (Tr AV → R) → R :=
  List.rec (motive := fun _ => List AV → Tr AV → (Tr AV → R) → R) (fun vs t k => List.rec (k t) (fun _ _ _ => .er 176) vs)
    (fun p _ ih vs t k => List.rec (.er 176) (fun v vs _ => ifK (Nat.ble (p + 1) nt) 179 fun _ => t.setK (.tu []) v (pth p) fun t => ih vs t k) vs) ps
/-- the loop's record is turned -/
noncomputable def setLp (b : Pn) (st : Nat) (pend : Option Code) (h : Tr AO) (k : Tr AO → R) : R :=
  h.getK .x b fun o => lpK o fun _ _ nt tm ps x y dq => h.setK .x (.lp st pend nt tm ps x y dq) b k
/-- how a round ends -/
noncomputable def roundK (b : Pn) (r : R) (k : AV → Tr AO → Pn → R) : R := match r with
  | .nm _ [] h n => setLp b 0 none h fun h => k (.b true) h n
  | .rt _ [] h n => setLp b 2 (some .ret) h fun h => k (.b false) h n
  | .ex id _ [] h n => setLp b 2 (some (.exit id)) h fun h => k (.b false) h n
  | .er c => .er c
  | _ => .er 177
def asgK (r : R) : (Tr AV → Tr AO → Pn → R) → R := match r with
  | .nm tm [] h n => fun k => k tm h n
  | .er c => fun _ => .er c
  | _ => fun _ => .er 178
/-- one round of a loop over a function -/
noncomputable def yieldK (b : Pn) (us : List AV) (B : Bd) (h : Tr AO) (n : Pn) (k : AV → Tr AO → Pn → R) : R :=
  h.getK .x b fun o => lpK o fun _ _ nt tm ps x y _ => parsK nt ps us tm fun tm => asgK (B (.rd nt x tm) h n) fun tm h n =>
    h.getK .x b fun o => lpK o fun st pend nt0 tm0 ps0 x0 y0 dq => ifK (Nat.beq st 0) 168 fun _ => h.setK .x (.lp 1 pend nt0 tm0 ps0 x0 y0 dq) b fun h =>
      roundK b (B (.rd nt y tm) h n) k
noncomputable def applyK (E : Env) (ix : FuncId → Option Ix) (fv : AV) (us : List AV) (B : Bd) (h : Tr AO) (n : Pn) (k : AV → Tr AO → Pn → R) : R :=
  match fv with
  | .f (.func g) a c => callK E ix g (a ++ us ++ c) B h n k
  | .y b => yieldK b us B h n k
  | _ => .er 174
def isNum (E : Env) (ts : List TypeId) : Bool := match ts with
  | [] => false
  | t :: _ => match E.ti t with
    | some i => Nat.beq (kd i.d) 1
    | none => true
noncomputable def minK (x y : AV) (k : AV → R) : R := i2 (fun q a b => .i q (Bool.rec b a (ile a b))) x y k
noncomputable def maxK (x y : AV) (k : AV → R) : R := i2 (fun q a b => .i q (Bool.rec b a (ile b a))) x y k
noncomputable def lenC (E : Env) (t : TypeId) (x : Operand) : COp :=
  match E.ti t with
  | some i => match i.d with
    | .string => .pu fun tm k => opd x tm fun v => asS v fun l => k (.i .i64 (.ofNat l.length))
    | .array n _ => .pu fun _ k => k (.i .i64 (.ofNat n))
    | .slice _ => .pu fun tm k => opd x tm fun v => asSl v (k (.i .i64 (.ofNat 0))) fun _ _ n _ _ => k (.i .i64 (.ofNat n))
    | .map _ _ => .rd fun tm h k => opd x tm fun v => asM v (k (.i .i64 (.ofNat 0))) fun b => mapK h b fun l _ => k (.i .i64 (.ofNat l.length))
    | _ => .no 188
  | none => .no 189
noncomputable def capC (E : Env) (t : TypeId) (x : Operand) : COp :=
  match E.ti t with
  | some i => match i.d with
    | .slice _ => .pu fun tm k => opd x tm fun v => asSl v (k (.i .i64 (.ofNat 0))) fun _ _ _ c ex => ifK (Nat.beq ex 0) 190 fun _ => k (.i .i64 (.ofNat c))
    | _ => .no 191
  | none => .no 189
noncomputable def clearC (E : Env) (t : TypeId) (x : Operand) : COp :=
  match E.ti t with
  | some i => match i.d with
    | .slice e => match E.ti e with
      | some j => match Nat.beq j.size 0 || !(Nat.beq j.zc.length j.size) with
        | true => .no 180
        | false => .ef fun _ tm h n k => opd x tm fun v => asSl v (k (.tu []) h n) fun b o m _ _ => Nat.rec (k (.tu []) h n) (fun _ _ => stc h b o (repC m j.zc) fun h => k (.tu []) h n) m
      | none => .no 193
    | .map _ _ => .ef fun _ tm h n k => opd x tm fun v => asM v (k (.tu []) h n) fun b => mapK h b fun _ c => h.setK .x (.mp [] c) b fun h => k (.tu []) h n
    | _ => .no 195
  | none => .no 196
noncomputable def elemC (E : Env) (t : TypeId) (k : TypeId → TI → COp) : COp :=
  match E.ti t with
  | some i => match i.d with
    | .slice e => match E.ti e with
      | some j => match Nat.beq j.size 0 || !(Nat.beq j.zc.length j.size) with
        | true => .no 180
        | false => k e j
      | none => .no 181
    | _ => .no 182
  | none => .no 183
noncomputable def builtinC (E : Env) (b : Builtin) (ts : List TypeId) (xs : List Operand) : COp :=
  match b, ts, xs with
  | .append, t :: u, [s, x] => match isNum E u with
    | true => .no 184
    | false => elemC E t fun e j => .ef fun _ tm h n k => opd s tm fun s => opd x tm fun x => append j e s x h n k
  | .copy, t :: _, [d, x] => elemC E t fun _ j => .ef fun _ tm h n k => opd d tm fun d => opd x tm fun x => copyK j.size d x h fun v h => k v h n
  | .len, t :: _, [x] => lenC E t x
  | .cap, t :: _, [x] => capC E t x
  | .min, _, [x, y] => pu2 x y minK
  | .max, _, [x, y] => pu2 x y maxK
  | .min, _, [x, y, z] => .pu fun tm k => opd x tm fun a => opd y tm fun b => opd z tm fun c => minK a b fun d => minK d c k
  | .clear, t :: _, [x] => clearC E t x
  | .delete, t :: _, [m, key] => match E.ti t with
    | some i => match i.d with
      | .map kt _ => match keyEq E kt with
        | some kd => .ef fun _ tm h n k => opd m tm fun v => opd key tm fun key => delK kd v key h fun h => k (.tu []) h n
        | none => .no 197
      | _ => .no 198
    | none => .no 199
  | .unsafeSliceData, _, [x] => .pu fun tm k => opd x tm fun v => asSl v (k .np) fun b o _ c _ => ifK (Nat.ble 1 c) 200 fun _ => k (.p b o)
  | .unsafeString, t :: _, [p, l] => match E.ti t with
    | some i => .ef fun _ tm h n k => opd p tm fun v => opd l tm fun w => natV w fun m => Nat.rec (ifK (isP v || isNp v) 204 fun _ => k (.s []) h n) (fun _ _ =>
        asP v fun b o => wblkK h b fun cs ty _ => ifK (Nat.beq ty (elemT i.d) && isByte E ty && Nat.beq (kd i.d) 4 && Nat.ble m 1073741824) 203 fun _ => cutK cs o m fun cs => toBytes cs fun r => h.setK .x .x b fun h => k (.s r) h n) m
    | none => .no 205
  | _, _, _ => .no 206
noncomputable def invokeK (E : Env) (ix : FuncId → Option Ix) (name : String) (v : AV) (us : List AV) (B : Bd) (h : Tr AO) (n : Pn) (k : AV → Tr AO → Pn → R) : R :=
  asIfc v (.er 208) fun t y => match mth E t name with
    | some (f, none) => callK E ix f (y :: us) B h n k
    | some (f, some j) => ld j h y fun v => callK E ix f (v :: us) B h n k
    | none => .er 207
noncomputable def callC (E : Env) (ix : FuncId → Option Ix) (c : Call) : COp :=
  match c.callee with
  | .builtin b => builtinC E b c.argTypes.toList c.args.toList
  | .value (.func f) => .ef fun B tm h n k => opds c.args.toList tm fun us => callK E ix f us B h n k
  | .value g => .ef fun B tm h n k => opd g tm fun fv => opds c.args.toList tm fun us => applyK E ix fv us B h n k
  | .invoke r name => .ef fun B tm h n k => opd r tm fun v => opds c.args.toList tm fun us => invokeK E ix name v us B h n k
def hasBody (E : Env) (f : FuncId) : Bool := match E.fn f with
  | some fn => fn.body.isSome && fn.results.toList.isEmpty
  | none => false
def dfK (E : Env) (fv : AV) (us : List AV) (k : AD → R) : R :=
  match fv with
  | .f (.func f) a d => ifK (hasBody E f) 210 fun _ => k (.fn f (a ++ us ++ d))
  | _ => .er 212
noncomputable def deferC (E : Env) (c : Call) : COp :=
  match c.callee with
  | .value g => .de fun tm k => opd g tm fun fv => opds c.args.toList tm fun us => dfK E fv us k
  | _ => .no 213
def isFn (fn : Fn) : Bool := match fn with
  | .func _ => true
  | _ => false
/-- what is no nil -/
def someV (v : AV) : Bool := match v with
  | .p _ _ => true
  | .ifc _ _ => true
  | .f fn _ _ => isFn fn
  | .y _ => true
  | _ => false
noncomputable def makeSliceC (E : Env) (t : TypeId) (l c : Operand) : COp :=
  elemC E t fun e j => match Nat.beq j.zc.length j.size with
    | false => .no 216
    | true => .al fun tm n k => opd l tm fun l => opd c tm fun c => natV l fun l => natV c fun c => ifK (Nat.ble l c && roomy c j.bytes) 217 fun _ => k (.sl n 0 l c 0) (.c (repC c j.zc) e false)
noncomputable def s2apC (E : Env) (t : TypeId) (x : Operand) : COp :=
  match E.ti t with
  | some i => match i.d with
    | .array n _ => .pu fun tm k => opd x tm fun v => asSl v (ifK (Nat.beq n 0) 218 fun _ => k .np) fun b o m _ _ => ifK (Nat.ble n m && Nat.ble 1 n) 219 fun _ => k (.p b o)
    | _ => .no 221
  | none => .no 222
noncomputable def makeMapC (E : Env) (t : TypeId) (r : Option Operand) : COp :=
  match E.ti t with
  | some i => match i.d with
    | .map _ _ => match r with
      | none => .al fun _ n k => k (.m n) (.mp [] 0)
      | some x => .al fun tm n k => opd x tm fun v => asI v fun _ _ => k (.m n) (.mp [] 0)
    | _ => .no 223
  | none => .no 224

/-- an operation -/
noncomputable def cop (E : Env) (ix : FuncId → Option Ix) (o : Oper) : COp :=
  match o.op with
  | .move x => .pu (opd x)
  | .assign x => .pu (opd x)
  | .pick c a b => .pu fun tm k => opd c tm fun c => asB c (opd a tm k) (opd b tm k)
  | .alloc t => match E.ti t with
    | some i => .al fun _ n k => k (.p n 0) (.c i.zc t false)
    | none => .no 231
  | .box t x => .al fun tm n k => opd x tm fun v => cellsK v fun l => k (.p n 0) (.c l t false)
  | .build t ps => buildC E t ps.toList
  | .buildSlice t len ps => buildSliceC E t len ps.toList
  | .insert t m key x => updC E t m key x
  | .load t a => match E.ti t with
    | some i => .rd fun tm h k => opd a tm fun v => ld i h v k
    | none => .no 232
  | .store t a x => match E.ti t with
    | some i => .ef fun _ tm h n k => opd a tm fun a => opd x tm fun x => st i h a x fun h => k (.tu []) h n
    | none => .no 233
  | .nilCheck x => .pu fun tm k => opd x tm fun v => ifK (someV v) 215 fun _ => k v
  | .binOp op t x y _ => binC E op t x y
  | .unOp op _ x => unC op x
  | .convert s d x => convC E s d x
  | .sliceToArrayPointer t x => s2apC E t x
  | .makeInterface t x => match E.ti t with
    | some i => match i.d with
      | .interface _ => .no 234
      | _ => .pu fun tm k => opd x tm fun v => k (.ifc t v)
    | none => .no 235
  | .makeFunc fn a c => .pu fun tm k => opds a.toList tm fun a => opds c.toList tm fun c => k (.f fn a c)
  | .makeMap t r => makeMapC E t r
  | .makeSlice t l c => makeSliceC E t l c
  | .slice t x lo hi mx => sliceC E t x lo hi mx
  | .fieldAddr s x f => fieldAddrC E s x f
  | .field t x f => fieldC E t x f
  | .indexAddr t x ix => indexAddrC E t x ix
  | .index t x ix => indexC E t x ix
  | .lookup t x ix ok => lookupC E t x ix ok
  | .mapUpdate t m key x => updC E t m key x
  | .range t x => rangeC E t x
  | .next it s => nextC it s
  | .entry it => entryC it
  | .typeAssert x _ t ok => typeAssertC E x t ok
  | .extract t ix => .pu fun tm k => opd t tm fun v => asTu v fun l => nthK l ix k
  | .call c => callC E ix c
  | .defer c => deferC E c
  | _ => .no 239

/-- an operation, its guard, where its value goes -/
structure CO where
  g : Option (Pn × Bool)
  d : Option Pn
  c : COp
/-- a guard's value: a bool; another value is as good as no -/
noncomputable def gdV (v : AV) (w : Bool) (yes no : R) : R :=
  match v with
  | .b x => Bool.rec no yes (beq x w)
  | .z => .er 240
  | _ => no
noncomputable def gd (g : Option (Pn × Bool)) (tm : Tr AV) (yes no : R) : R :=
  Option.rec yes (fun p => tm.getK (.tu []) p.1 fun v => gdV v p.2 yes no) g
noncomputable def put (d : Option Pn) (v : AV) (tm : Tr AV) (k : Tr AV → R) : R :=
  Option.rec (k tm) (fun p => tm.setK (.tu []) v p k) d
noncomputable def guardOf (ops : List Oper) (o : Oper) : Option (Option (Pn × Bool)) :=
  match o.guard with
  | none => some none
  | some (j, w) => match ops[j]? with
    | some q => match q.dst with
      | some t => some (some (pth t, w))
      | none => none
    | none => none
noncomputable def dstOf (nt : Nat) (o : Oper) : Option (Option Pn) :=
  match o.dst with
  | none => some none
  | some t => match Nat.ble (t + 1) nt with
    | true => some (some (pth t))
    | false => none
/-- no deferred call within a round -/
def noDef (ro : Bool) (c : COp) : COp :=
  match c with
  | .de f => match ro with
    | true => .no 242
    | false => .de f
  | c => c
/-- a global that is one -/
def gOk1 (E : Env) (x : Operand) : Bool := match x with
  | .global g => Nat.ble (g + 1) E.ng
  | _ => true
def gOk (E : Env) (o : Oper) : Bool := o.op.operands.toList.all (gOk1 E)
noncomputable def coOf (E : Env) (ix : FuncId → Option Ix) (nt : Nat) (ro : Bool) (ops : List Oper) (o : Oper) : CO :=
  match guardOf ops o, dstOf nt o, gOk E o with
  | some g, some d, true => { g, d, c := noDef ro (cop E ix o) }
  | _, _, _ => { g := none, d := none, c := .no 241 }
noncomputable def cosOf (E : Env) (ix : FuncId → Option Ix) (nt : Nat) (ro : Bool) (ops : List Oper) (l : List Oper) : List CO :=
  List.rec [] (fun o _ ih => coOf E ix nt ro ops o :: ih) l

noncomputable def runC (c : COp) : Option Pn → Bd → Tr AV → List AD → Tr AO → Pn → K3 → R :=
  COp.rec (motive := fun _ => Option Pn → Bd → Tr AV → List AD → Tr AO → Pn → K3 → R)
    (fun f d _ tm df h n k => f tm fun v => put d v tm fun tm => k tm df h n)
    (fun f d _ tm df h n k => f tm h fun v => put d v tm fun tm => k tm df h n)
    (fun f d _ tm df h n k => f tm n fun v o => put d v tm fun tm => newK h n o fun h n => k tm df h n)
    (fun f d B tm df h n k => f B tm h n fun v h n => put d v tm fun tm => k tm df h n)
    (fun f d _ tm df h n k => f tm fun a => put d (.tu []) tm fun tm => k tm (a :: df) h n)
    (fun c _ _ _ _ _ _ _ => .er c) c
noncomputable def stepC (o : CO) (ih : Bd → Tr AV → List AD → Tr AO → Pn → K3 → R) (B : Bd) (tm : Tr AV) (df : List AD) (h : Tr AO) (n : Pn) (k : K3) : R :=
  gd o.g tm (runC o.c o.d B tm df h n fun tm df h n => ih B tm df h n k) (put o.d (.tu []) tm fun tm => ih B tm df h n k)
noncomputable def runL (l : List CO) : Bd → Tr AV → List AD → Tr AO → Pn → K3 → R :=
  List.rec (motive := fun _ => Bd → Tr AV → List AD → Tr AO → Pn → K3 → R) (fun _ tm df h n k => k tm df h n) (fun o _ ih => stepC o ih) l

/-! ### regions that draw their order -/
/-- bits of the operations that stand ahead of each -/
def befores : List Oper → List Nat → List Nat
  | [], acc => acc
  | o :: r, acc => befores r (acc ++ [o.after.toList.foldl (fun s e => if Region.binds .any e then s ||| 2 ^ e.on ||| acc.getD e.on 0 else s) 0])
def isEff (c : COp) : Bool := match c with
  | .ef _ => true
  | .de _ => true
  | _ => false
/-- the places of the effects -/
def effs : List CO → Nat → List Nat
  | [], _ => []
  | c :: r, i => match isEff c.c with
    | true => i :: effs r (i + 1)
    | false => effs r (i + 1)
/-- each effect stands behind the one before -/
def chain (bs : List Nat) : List Nat → Bool
  | [] => true
  | [_] => true
  | a :: b :: r => (bs.getD b 0).testBit a && chain bs (b :: r)
/-- how many effects stand ahead of i -/
def loOf (b : Nat) : List Nat → Nat
  | [] => 0
  | e :: r => match b.testBit e with
    | true => loOf b r + 1
    | false => 0
/-- the first effect that stands behind i -/
def hiOf (bs : List Nat) (i : Nat) : List Nat → Nat
  | [] => 0
  | e :: r => match (bs.getD e 0).testBit i with
    | true => 0
    | false => hiOf bs i r + 1
structure DO where
  c : CO
  lo : Nat
  hi : Nat
def dosOf (bs es : List Nat) : List CO → Nat → List DO
  | [], _ => []
  | c :: r, i => { c, lo := loOf (bs.getD i 0) es, hi := hiOf bs i es } :: dosOf bs es r (i + 1)
end Ax
end Go.Proofs.YtnnhkajjifmlfaaDoor
