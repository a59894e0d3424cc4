/- The compact code, how it is made of the model's code, and how it is run on the abstract heap. Generic: no program in it. -/
import Derived.Test.YtbjmmkfaikkidaaGreatAvA
set_option linter.constructorNameAsVariable false
namespace Go.Av

inductive KO where
  | t (n : Nat)
  | c (v : AV)
  deriving Inhabited

inductive EqT where
  | bool | int | str | ptr | slice | map | func | iface
  | struct (fs : List (Nat × Option Nat × EqT))   -- offset, size (none: one cell)
  deriving Inhabited

inductive KCallee where
  | fn (g : Nat)
  | val (x : KO)
  | inv (x : KO) (m : String)
  deriving Inhabited

inductive KOp where
  | mv (x : KO)
  | pick (c a b : KO)
  | newv (elem : Nat) (z : List AV)
  | box (elem : Nat) (x : KO)
  | build (z : List AV) (ps : List (Nat × Nat × KO))
  | bslice (elem : Nat) (len : Nat) (z : List AV) (ps : List (Nat × Nat × KO))
  | ld1 (x : KO)
  | ldn (n : Nat) (x : KO)
  | st (n : Nat) (x v : KO)
  | nchk (ok : Nat → String → Bool) (x : KO)
  | bin (op : BinOp) (x y : KO)
  | eq (neg : Bool) (t : EqT) (x y : KO)
  | un (op : UnOp) (x : KO)
  | cvi (k : IntKind) (x : KO)
  | cvid (x : KO)
  | cvf (k : FloatKind) (x : KO)
  | cvsb (elem : Nat) (x : KO)
  | cvbs (x : KO)
  | mkif (t : Nat) (x : KO)
  | mkf (g : Nat) (first caps : List KO)
  | mkfm (m : String) (first caps : List KO)
  | mkmap
  | mkslice (elem bytes : Nat) (z : List AV) (l c : KO)
  | slS (x : KO) (lo hi : Option KO)
  | sl (size : Nat) (x : KO) (lo hi mx : Option KO)
  | slA (n size : Nat) (x : KO) (lo hi : Option KO)
  | fadd (off : Nat) (x : KO)
  | fld (off : Nat) (size : Option Nat) (x : KO)
  | iadd (size : Nat) (x ix : KO)
  | iaddA (len size : Nat) (x ix : KO)
  | idxS (x ix : KO)
  | idxA (len size : Nat) (part : Option Nat) (x ix : KO)
  | lookup (t : EqT) (z : AV) (ok : Bool) (x ix : KO)
  | mapup (t : EqT) (x ix v : KO)
  | ext (x : KO) (ix : Nat)
  | call (c : KCallee) (args : List KO)
  | len (kd : Nat) (x : KO)
  | cap (x : KO)
  | append (elem size bytes : Nat) (s x : KO)
  | copy (size : Nat) (d s : KO)
  | clr (z : List AV) (x : KO)
  | del (t : EqT) (x ix : KO)
  | min (xs : List KO)
  | max (xs : List KO)
  | bad
  deriving Inhabited

structure KOper where
  dst : Option Nat
  op : KOp
  guard : Option (Option Nat × Bool)     -- the slot of the guarding operation
  win : Option (Nat × Nat) := none       -- in a region that draws: between which writes it may read
  deriving Inhabited

inductive KCode where
  | skip | ret | bad
  | region (draw : Bool) (ops : List KOper)
  | seq (a b : KCode)
  | cond (c : KO) (a b : KCode)
  | block (id : Nat) (c : KCode)
  | loop (c : KCode)
  | exit (id : Nat)
  | rng (g : KO) (nt : Nat) (ps : List Nat) (ca cb : Code)
  deriving Inhabited

inductive KRes where
  | t (n : Nat)
  | c1 (a : Nat)
  | cn (a n : Nat)
  deriving Inhabited

structure KFunc where
  nt : Nat
  res : List KRes
  body : KCode
  deriving Inhabited

/-! compiling -/
mutual
def ofValue : Value → Option AV
  | .bool x => some (.b x)
  | .int k n => some (.i k n)
  | .string ⟨⟨l⟩⟩ => some (.s l)
  | .float k n => some (.fl k n)
  | .pointer none => some .p0
  | .slice none 0 0 => some .sl0
  | .map none => some .m0
  | .nilFunc => some .f0
  | .nilIface => some .n0
  | .agg ⟨l⟩ => match ofValues l with | some x => some (.ag x) | none => none
  | .tuple ⟨l⟩ => match ofValues l with | some x => some (.tu x) | none => none
  | .func (.func g) ⟨a⟩ ⟨c⟩ => match ofValues a, ofValues c with | some x, some y => some (.f g x y) | _, _ => none
  | _ => none
def ofValues : List Value → Option (List AV)
  | [] => some []
  | v :: r => match ofValue v, ofValues r with | some x, some y => some (x :: y) | _, _ => none
end

def cO : Operand → Option KO
  | .tmp t => some (.t t)
  | .const v => match ofValue v with | some x => some (.c x) | none => none
  | .func f => some (.c (.f f [] []))
  | .global _ => none
def cOs : List Operand → Option (List KO)
  | [] => some []
  | x :: r => match cO x, cOs r with | some a, some b => some (a :: b) | _, _ => none
def cOpt : Option Operand → Option (Option KO)
  | none => some none
  | some x => match cO x with | some a => some (some a) | none => none

def isAggT : TypeDesc → Bool
  | .struct _ => true
  | .array _ _ => true
  | _ => false
section
variable (P : Program)
def zeroOf (t : TypeId) : Option AV := match P.info? t with
  | some i => match i.zero with
    | some z => ofValue z
    | none => none
  | none => none
def zcells (t : TypeId) : Option (List AV) := match zeroOf P t with | some z => some z.cells | none => none
def szOf (t : TypeId) : Option Nat := match P.info? t with | some i => some i.size | none => none
def byOf (t : TypeId) : Option Nat := match P.info? t with | some i => some i.bytes | none => none
def aggSize (t : TypeId) : Option (Option Nat) :=
  match P.underlying t, szOf P t with
  | some d, some n => some (if isAggT d then some n else none)
  | _, _ => none
def eqFields (f : TypeId → Option EqT) : List Field → Option (List (Nat × Option Nat × EqT))
  | [] => some []
  | x :: r => match f x.type, aggSize P x.type, eqFields f r with
    | some e, some a, some l => if x.name = "_" then none else some ((x.offset, a, e) :: l)
    | _, _, _ => none
def eqt : Nat → TypeId → Option EqT
  | 0, _ => none
  | n + 1, t =>
    match P.underlying t with
    | some .bool => some .bool
    | some (.int _) => some .int
    | some .string => some .str
    | some (.pointer e) => if szOf P e = some 0 ∨ szOf P e = none then none else some .ptr
    | some (.slice _) => some .slice
    | some (.map _ _) => some .map
    | some (.func ..) => some .func
    | some (.interface _) => some .iface
    | some (.struct fs) => if P.stoodInHeld t then none else match eqFields P (eqt n) fs.toList with
      | some l => some (.struct l)
      | none => none
    | some (.array m el) => match eqt n el, aggSize P el, szOf P el with
      | some q, some a, some z => some (.struct ((List.range m).map fun i => (i * z, a, q)))
      | _, _, _ => none
    | _ => none
def rep (n : Nat) (z : List AV) : List AV := (List.range (n * z.length)).map fun j => (z[j % z.length]?).getD .u
def cParts (fo : Nat → Option (Nat × Nat)) : List (Nat × Operand) → Option (List (Nat × Nat × KO))
  | [] => some []
  | (i, x) :: r => match fo i, cO x, cParts fo r with
    | some (o, s), some k, some l => some ((o, s, k) :: l)
    | _, _, _ => none
def placesOf : List Field → Option (List (Nat × Nat))
  | [] => some []
  | f :: r => match szOf P f.type, placesOf r with
    | some s, some l => some ((f.offset, s) :: l)
    | _, _ => none
def constO : Operand → Bool
  | .const _ => true
  | _ => false
def isGuardFree (op : BinOp) (t : TypeId) (x y : Operand) : Bool :=
  match op with
  | .eql | .neq => match P.underlying t with
    | some (.interface _) => constO x || constO y
    | _ => !(P.eqGuardType P.depth t)
  | _ => true
def methOf (t : Nat) (m : String) : Option Nat := match P.info? t with
  | none => none
  | some i => match i.methods.find? (·.name == m) with
    | none => none
    | some x => match x.path.toList, x.func, P.underlying t with
      | [], some (f, true), some (.pointer _) => some f
      | [], some (_, _), some (.pointer _) => none
      | [], some (f, false), some _ => some f
      | _, _, _ => none
def cOp (o : Oper) : Option KOp :=
  match o.op with
  | .move x => (cO x).map .mv
  | .assign x => (cO x).map .mv
  | .pick c a b => match cO c, cO a, cO b with
    | some c, some a, some b => some (.pick c a b)
    | _, _, _ => none
  | .alloc t => match zcells P t with
    | some z => some (.newv t z)
    | none => none
  | .box t x => (cO x).map (.box t)
  | .build t ps =>
    match P.underlying t, zcells P t with
    | some (.struct fs), some z => match placesOf P fs.toList with
      | some pl => (cParts (fun i => pl[i]?) ps.toList).map (.build z)
      | none => none
    | some (.array _ e), some z => match szOf P e with
      | some s => (cParts (fun i => some (i * s, s)) ps.toList).map (.build z)
      | none => none
    | _, _ => none
  | .buildSlice t n ps =>
    match P.underlying t with
    | some (.slice e) => match szOf P e, zcells P e with
      | some s, some z => if n * s ≤ 1000 ∧ z.length = s ∧ 0 < s then (cParts (fun i => some (i * s, s)) ps.toList).map (.bslice e n z) else none
      | _, _ => none
    | _ => none
  | .load t a => match aggSize P t, cO a with
    | some (some n), some a => some (.ldn n a)
    | some none, some a => some (.ld1 a)
    | _, _ => none
  | .store t a v => match szOf P t, cO a, cO v with
    | some n, some a, some v => some (.st n a v)
    | _, _, _ => none
  | .nilCheck x => (cO x).map (.nchk fun t m => (methOf P t m).isSome)
  | .binOp op t x y _ =>
    match isGuardFree P op t x y with
    | false => none
    | true => match cO x, cO y, P.underlying t with
      | some a, some b, some (.int _) => some (.bin op a b)
      | some a, some b, some .string => some (.bin op a b)
      | some a, some b, some (.float _) => some (.bin op a b)
      | some a, some b, some _ => match op, eqt P 5 t with
        | .eql, some e => some (.eq false e a b)
        | .neq, some e => some (.eq true e a b)
        | _, _ => none
      | _, _, _ => none
  | .unOp op _ x => (cO x).map (.un op)
  | .convert a b x =>
    match P.underlying a, P.underlying b, cO x with
    | some (.int _), some (.int k), some x => some (.cvi k x)
    | some (.int _), some (.float k), some x => some (.cvf k x)
    | some .string, some .string, some x => some (.cvid x)
    | some .string, some (.slice e), some x => match P.underlying e with
      | some (.int .u8) => some (.cvsb e x)
      | _ => none
    | some (.slice e), some .string, some x => match P.underlying e with
      | some (.int .u8) => some (.cvbs x)
      | _ => none
    | _, _, _ => none
  | .makeInterface t x => match P.underlying t, cO x with
    | some (.interface _), _ => none
    | some _, some x => some (.mkif t x)
    | _, _ => none
  | .makeFunc (.func g) a b => match cOs a.toList, cOs b.toList with
    | some a, some b => some (.mkf g a b)
    | _, _ => none
  | .makeFunc (.method m) a b => match cOs a.toList, cOs b.toList with
    | some a, some b => some (.mkfm m a b)
    | _, _ => none
  | .makeMap _ none => some .mkmap
  | .makeSlice t l c =>
    match P.underlying t with
    | some (.slice e) => match byOf P e, szOf P e, zcells P e, cO l, cO c with
      | some b, some s, some z, some l, some c => if z.length = s ∧ 0 < s then some (.mkslice e b z l c) else none
      | _, _, _, _, _ => none
    | _ => none
  | .slice t x l h m =>
    match P.underlying t, cO x, cOpt l, cOpt h, cOpt m with
    | some .string, some x, some l, some h, some none => some (.slS x l h)
    | some (.slice e), some x, some l, some h, some m => if m.isSome = true ∧ h.isNone = true then none else (szOf P e).map fun s => .sl s x l h m
    | some (.array n e), some x, some l, some h, some none => (szOf P e).map fun s => .slA n s x l h
    | _, _, _, _, _ => none
  | .fieldAddr t x f =>
    match P.underlying t, cO x with
    | some (.struct fs), some x => match fs[f]? with
      | some f => match szOf P f.type with
        | some (_ + 1) => some (.fadd f.offset x)
        | _ => none
      | none => none
    | _, _ => none
  | .field t x f =>
    match P.underlying t, cO x with
    | some (.struct fs), some x => match fs[f]? with
      | some f => (aggSize P f.type).map fun a => .fld f.offset a x
      | none => none
    | _, _ => none
  | .indexAddr t x ix =>
    match P.underlying t, cO x, cO ix with
    | some (.slice e), some x, some ix => (szOf P e).map fun s => .iadd s x ix
    | some (.array n e), some x, some ix => (szOf P e).map fun s => .iaddA n s x ix
    | _, _, _ => none
  | .index t x ix =>
    match P.underlying t, cO x, cO ix with
    | some .string, some x, some ix => some (.idxS x ix)
    | some (.array n e), some x, some ix => match szOf P e, aggSize P e with
      | some s, some a => some (.idxA n s a x ix)
      | _, _ => none
    | _, _, _ => none
  | .lookup t x ix ok =>
    match P.underlying t, cO x, cO ix with
    | some (.map k e), some x, some ix => match eqt P 5 k, zeroOf P e with
      | some .int, some z => some (.lookup .int z ok x ix)
      | some .str, some z => some (.lookup .str z ok x ix)
      | _, _ => none
    | _, _, _ => none
  | .mapUpdate t m k v | .insert t m k v =>
    match P.underlying t, cO m, cO k, cO v with
    | some (.map kt _), some m, some k, some v => match eqt P 5 kt with
      | some .int => some (.mapup .int m k v)
      | some .str => some (.mapup .str m k v)
      | _ => none
    | _, _, _, _ => none
  | .extract x i => (cO x).map fun x => .ext x i
  | .call c =>
    match c.callee, cOs c.args.toList with
    | .value (.func g), some l => some (.call (.fn g) l)
    | .value x, some l => (cO x).map fun x => .call (.val x) l
    | .invoke x m, some l => (cO x).map fun x => .call (.inv x m) l
    | .builtin b, some l => match b, l, c.argTypes.toList with
      | .len, [x], [t] => match P.underlying t with
        | some .string => some (.len 0 x)
        | some (.slice _) => some (.len 1 x)
        | some (.map _ _) => some (.len 2 x)
        | _ => none
      | .cap, [x], [t] => match P.underlying t with
        | some (.slice _) => some (.cap x)
        | _ => none
      | .append, [s, x], [t, u] => match P.underlying t, P.underlying u with
        | some (.slice e), some (.slice _) => match szOf P e, byOf P e, zcells P e with
          | some n, some b, some z => if z.length = n ∧ 0 < n ∧ b ≤ 1024 then some (.append e n b s x) else none
          | _, _, _ => none
        | some (.slice e), some .string => match szOf P e, byOf P e, zcells P e with
          | some 1, some b, some [_] => if b ≤ 1024 then some (.append e 1 b s x) else none
          | _, _, _ => none
        | _, _ => none
      | .copy, [s, x], [t, _] => match P.underlying t with
        | some (.slice e) => (szOf P e).map fun n => .copy n s x
        | _ => none
      | .clear, [x], [t] => match P.underlying t with
        | some (.slice e) => match szOf P e, zcells P e with
          | some n, some z => if z.length = n ∧ z.all AV.one = true then some (.clr z x) else none
          | _, _ => none
        | _ => none
      | .delete, [m, k], [t, _] => match P.underlying t with
        | some (.map kt _) => match eqt P 5 kt with
          | some .int => some (.del .int m k)
          | some .str => some (.del .str m k)
          | _ => none
        | _ => none
      | .min, l, _ => some (.min l)
      | .max, l, _ => some (.max l)
      | _, _, _ => none
    | _, _ => none
  | _ => none

/-! regions that draw their order -/
/-- 0: of temporaries alone · 1: reads memory · 2: makes memory · 3: writes, or calls -/
def KOp.cls : KOp → Nat
  | .ld1 _ | .ldn .. | .eq .. | .cvbs _ | .lookup .. | .len .. => 1
  | .newv .. | .box .. | .bslice .. | .cvsb .. | .mkmap | .mkslice .. => 2
  | .st .. | .mapup .. | .call .. | .append .. | .copy .. | .clr .. | .del .. | .bad => 3
  | _ => 0
def kosO : Option KO → List KO
  | none => []
  | some x => [x]
/-- the operands -/
def KOp.kos : KOp → List KO
  | .mv x | .box _ x | .ld1 x | .ldn _ x | .nchk _ x | .un _ x | .cvi _ x | .cvid x | .cvf _ x | .cvsb _ x | .cvbs x | .mkif _ x | .fadd _ x | .fld _ _ x | .ext x _ | .len _ x | .cap x | .clr _ x => [x]
  | .pick c a b => [c, a, b]
  | .newv .. | .mkmap | .bad => []
  | .build _ ps | .bslice _ _ _ ps => ps.map (·.2.2)
  | .st _ x v | .bin _ x v | .eq _ _ x v | .mkslice _ _ _ x v | .iadd _ x v | .iaddA _ _ x v | .idxS x v | .idxA _ _ _ x v | .lookup _ _ _ x v | .append _ _ _ x v | .copy _ x v | .del _ x v => [x, v]
  | .mkf _ a b | .mkfm _ a b => a ++ b
  | .slS x l h | .slA _ _ x l h => x :: (kosO l ++ kosO h)
  | .sl _ x l h m => x :: (kosO l ++ kosO h ++ kosO m)
  | .mapup _ x i v => [x, i, v]
  | .call c l => (match c with | .fn _ => [] | .val x => [x] | .inv x _ => [x]) ++ l
  | .min l | .max l => l
def predsOf (o : Oper) : List Nat := o.after.toList.filterMap fun e => if Region.binds .any e then some e.on else none
/-- all that must have been carried out ahead of each -/
def ancMask (acc : List Nat) (l : List Nat) : Nat := l.foldl (fun m j => Nat.lor (Nat.lor m ((acc[j]?).getD 0)) (Nat.pow 2 j)) 0
def ancStep (acc : List Nat) (o : Oper) : List Nat := acc ++ [ancMask acc (predsOf o)]
def ancOf (ops : List Oper) : List Nat := ops.foldl ancStep []
end

structure Cx where
  funcs : Tr KFunc
  meth : Nat → String → Option Nat
  orc : Nat → Option (List AV → St → Option (AV × St)) := fun _ => none
  comp : Nat → Code → KCode

abbrev Env := Tr AV

def ev (e : Env) : KO → AV
  | .t n => (e.get n).getD .u
  | .c v => v
def evs (e : Env) : List KO → List AV
  | [] => []
  | x :: r => ev e x :: evs e r

def cellsAt (t : Tr AV) : Nat → Nat → Option (List AV)
  | _, 0 => some []
  | k, n + 1 => match t.get k with
    | some v => match cellsAt t (k + 1) n with
      | some l => some (v :: l)
      | none => none
    | none => none
def csOf (s : St) (id : Nat) : Option (Tr AV) :=
  match s.heap.get id with
  | some (.row _ _ cs _) => some cs
  | some (.ro cs) => some cs
  | _ => none
def storeAt (t : Tr AV) : Nat → List AV → Tr AV
  | _, [] => t
  | k, v :: r => storeAt (t.set k v) (k + 1) r
def putRow (s : St) (id e n : Nat) (cs : Tr AV) (op : Option Nat) : St := { s with heap := s.heap.set id (.row e n cs op) }
def newRow (s : St) (e : Nat) (l : List AV) (op : Option Nat) : St :=
  { heap := s.heap.set s.next (.row e l.length (Tr.ofList l) op), next := s.next + 1 }
def fillAt (l : List AV) (o : Nat) (vs : List AV) : List AV := l.take o ++ vs ++ l.drop (o + vs.length)
def fillAll (e : Env) : List AV → List (Nat × Nat × KO) → Option (List AV)
  | l, [] => some l
  | l, (o, sz, x) :: r =>
    if (ev e x).cells.length = sz ∧ o + (ev e x).cells.length ≤ l.length then fillAll e (fillAt l o (ev e x).cells) r else none
/-- a part of an aggregate: of so many cells, or the one -/
def partV (n : Option Nat) (l : List AV) (o : Nat) : Option AV :=
  match n with
  | some m => some (.ag ((l.drop o).take m))
  | none => l[o]?
def eqb (a b : List UInt8) : Bool := a == b
mutual
def eqv (s : St) : EqT → AV → AV → Option Bool
  | .bool, .b x, .b y => some (x == y)
  | .int, .i j x, .i k y => if j = k then some (x == y) else none
  | .str, .s x, .s y => some (eqb x y)
  | .ptr, .p0, .p0 => some true
  | .ptr, .p0, .p _ _ => some false
  | .ptr, .p _ _, .p0 => some false
  | .ptr, .p a x, .p b y =>
    if a = b then some (x == y) else
    match s.heap.get a, s.heap.get b with
    | some (.row _ _ _ none), some (.row _ _ _ none) => some false
    | _, _ => none
  | .slice, .sl0, .sl0 => some true
  | .slice, .sl0, .sl .. => some false
  | .slice, .sl .., .sl0 => some false
  | .map, .m0, .m0 => some true
  | .map, .m0, .m _ => some false
  | .map, .m _, .m0 => some false
  | .func, .f0, .f0 => some true
  | .func, .f0, .f .. => some false
  | .func, .f .., .f0 => some false
  | .iface, .n0, .n0 => some true
  | .iface, .n0, .ifc .. => some false
  | .iface, .ifc .., .n0 => some false
  | .struct fs, .ag x, .ag y => eqvs s fs x y
  | _, _, _ => none
def eqvs (s : St) : List (Nat × Option Nat × EqT) → List AV → List AV → Option Bool
  | [], _, _ => some true
  | (o, sz, t) :: r, x, y =>
    match partV sz x o, partV sz y o with
    | some a, some b => match eqv s t a b with
      | some true => eqvs s r x y
      | some false => some false
      | none => none
    | _, _ => none
end
def keyEq : EqT → AV → AV → Option Bool
  | .int, .i j x, .i k y => if j = k then some (x == y) else none
  | .str, .s x, .s y => some (eqb x y)
  | _, _, _ => none
def findKey (t : EqT) (k : AV) : List (AV × AV) → Nat → Option (Option (Nat × AV))
  | [], _ => some none
  | (a, v) :: r, i => match keyEq t k a with
    | some true => some (some (i, v))
    | some false => findKey t k r (i + 1)
    | none => none
def binv (op : BinOp) (x y : AV) : Option AV :=
  match op, x, y with
  | .shl, .i k a, .i _ b => if b < 0 then none else some (.i k (k.wrap (a * 2 ^ (min b.toNat k.bits))))
  | .shr, .i k a, .i _ b => if b < 0 then none else some (.i k (a.fdiv (2 ^ (min b.toNat k.bits))))
  | op, .i k a, .i j b =>
    if k ≠ j then none else
    match op with
    | .add => some (.i k (k.wrap (a + b)))
    | .sub => some (.i k (k.wrap (a - b)))
    | .mul => some (.i k (k.wrap (a * b)))
    | .quo => if b = 0 then none else some (.i k (k.wrap (a.tdiv b)))
    | .rem => if b = 0 then none else some (.i k (a.tmod b))
    | .and => some (.i k (k.wrap ((BitVec.ofInt k.bits a) &&& (BitVec.ofInt k.bits b)).toNat))
    | .or => some (.i k (k.wrap ((BitVec.ofInt k.bits a) ||| (BitVec.ofInt k.bits b)).toNat))
    | .xor => some (.i k (k.wrap ((BitVec.ofInt k.bits a) ^^^ (BitVec.ofInt k.bits b)).toNat))
    | .andNot => some (.i k (k.wrap ((BitVec.ofInt k.bits a) &&& ~~~(BitVec.ofInt k.bits b)).toNat))
    | .eql => some (.b (a == b))
    | .neq => some (.b (a != b))
    | .lss => some (.b (a < b))
    | .leq => some (.b (a ≤ b))
    | .gtr => some (.b (a > b))
    | .geq => some (.b (a ≥ b))
    | _ => none
  | op, .s a, .s b =>
    match op with
    | .add => if a.length + b.length ≤ 2 ^ 60 then some (.s (a ++ b)) else none
    | .eql => some (.b (a == b))
    | .neq => some (.b (!(a == b)))
    | .lss => some (.b (Op.bytesLess a b))
    | .leq => some (.b (Op.bytesLess a b || a == b))
    | .gtr => some (.b (!(Op.bytesLess a b || a == b)))
    | .geq => some (.b (!Op.bytesLess a b))
    | _ => none
  | op, .fl k a, .fl j b =>
    if k ≠ j then none else
    match op with
    | .eql => some (.b (k.format.order a b == some .eq))
    | .neq => some (.b (k.format.order a b != some .eq))
    | .lss => some (.b (k.format.order a b == some .lt))
    | .leq => some (.b (k.format.order a b == some .lt || k.format.order a b == some .eq))
    | .gtr => some (.b (k.format.order a b == some .gt))
    | .geq => some (.b (k.format.order a b == some .gt || k.format.order a b == some .eq))
    | _ => none
  | _, _, _ => none
def bnd (e : Env) (x : Option KO) (d y : Nat) : Option Nat :=
  match x with
  | none => some d
  | some x => match ev e x with
    | .i _ n => if 0 ≤ n ∧ n ≤ y then some n.toNat else none
    | _ => none
def mmF (mx : Bool) : AV → List AV → Option AV
  | v, [] => some v
  | .i k x, .i _ y :: r => mmF mx (.i k (if mx then (if y > x then y else x) else (if y < x then y else x))) r
  | _, _ => none
def mm (mx : Bool) : List AV → Option AV
  | [] => none
  | v :: r => mmF mx v r
def bytesOfCells : List AV → Option (List UInt8)
  | [] => some []
  | .i .u8 n :: r => match bytesOfCells r with
    | some l => some (UInt8.ofNat n.toNat :: l)
    | none => none
  | _ => none
/-- the cells of what is appended, or copied: its first n elements -/
def srcCells (s : St) (size n : Nat) : AV → Option (List AV)
  | .sl0 => some []
  | .sl id off _ cap _ => if n = 0 then some [] else if cap = 0 then none else match csOf s id with
    | some cs => match cellsAt cs off (n * size) with
      | some l => if l.all AV.one then some l else none
      | none => none
    | none => none
  | .s l => if size = 1 then some ((l.take n).map fun b => .i .u8 b.toNat) else none
  | _ => none
def lenV : AV → Option Nat
  | .sl0 => some 0
  | .sl _ _ n _ _ => some n
  | .s l => some l.length
  | _ => none
def mapOf (s : St) : AV → Option (List (AV × AV))
  | .m0 => some []
  | .m id => match s.heap.get id with
    | some (.map es) => some es
    | _ => none
  | _ => none

/-- operations that are no calls -/
def evOp (e : Env) (s : St) : KOp → Option (AV × St)
  | .mv x => some (ev e x, s)
  | .pick c a b => match ev e c with
    | .b true => some (ev e a, s)
    | .b false => some (ev e b, s)
    | _ => none
  | .newv t z => some (.p s.next 0, newRow s t z none)
  | .box t x => some (.p s.next 0, newRow s t (ev e x).cells none)
  | .build z ps => match fillAll e z ps with
    | some l => some (.ag l, s)
    | none => none
  | .bslice t n z ps => match fillAll e (rep n z) ps with
    | some l => some (.sl s.next 0 n n false, newRow s t l none)
    | none => none
  | .ld1 x => match ev e x with
    | .p id off => match csOf s id with
      | some cs => match cs.get off with
        | some v => some (v, s)
        | none => none
      | none => none
    | _ => none
  | .ldn n x => match ev e x with
    | .p id off => match csOf s id with
      | some cs => match cellsAt cs off n with
        | some l => some (.ag l, s)
        | none => none
      | none => none
    | _ => none
  | .st n x v => match ev e x with
    | .p id off => match s.heap.get id with
      | some (.row t m cs op) =>
        if (ev e v).cells.length = n ∧ off + n ≤ m ∧ (ev e v).cells.all AV.one = true then some (.u, putRow s id t m (storeAt cs off (ev e v).cells) op) else none
      | _ => none
    | _ => none
  | .nchk ok x => match ev e x with
    | .p a b => some (.p a b, s)
    | .ifc t v => some (.ifc t v, s)
    | .f g a b => some (.f g a b, s)
    | .fm m (.ifc t v :: l) b => match ok t m with
      | true => some (.fm m (.ifc t v :: l) b, s)
      | false => none
    | _ => none
  | .bin op x y => match binv op (ev e x) (ev e y) with
    | some v => some (v, s)
    | none => none
  | .eq neg t x y => match eqv s t (ev e x) (ev e y) with
    | some r => some (.b (neg != r), s)
    | none => none
  | .un op x => match op, ev e x with
    | .not, .b x => some (.b (!x), s)
    | .neg, .i k n => some (.i k (k.wrap (0 - n)), s)
    | .xor, .i k n => match binv .xor (.i k (if k.signed then -1 else k.max)) (.i k n) with
      | some v => some (v, s)
      | none => none
    | _, _ => none
  | .cvi k x => match ev e x with
    | .i _ n => some (.i k (k.wrap n), s)
    | _ => none
  | .cvid x => match ev e x with
    | .s l => some (.s l, s)
    | _ => none
  | .cvf k x => match ev e x with
    | .i _ n => some (.fl k (k.nearest n), s)
    | _ => none
  | .cvsb t x => match ev e x with
    | .s l => if l.length ≤ 2 ^ 40 then some (.sl s.next 0 l.length l.length true, newRow s t (l.map fun b => .i .u8 b.toNat) (some 1)) else none
    | _ => none
  | .cvbs x => match ev e x with
    | .sl0 => some (.s [], s)
    | .sl id off n cap _ => if n = 0 then some (.s [], s) else if cap = 0 then none else match csOf s id with
      | some cs => match cellsAt cs off n with
        | some l => match bytesOfCells l with
          | some l => some (.s l, s)
          | none => none
        | none => none
      | none => none
    | _ => none
  | .mkif t x => some (.ifc t (ev e x), s)
  | .mkf g a b => some (.f g (evs e a) (evs e b), s)
  | .mkfm m a b => some (.fm m (evs e a) (evs e b), s)
  | .mkmap => some (.m s.next, { heap := s.heap.set s.next (.map []), next := s.next + 1 })
  | .mkslice t bytes z l c => match ev e l, ev e c with
    | .i .i64 l, .i .i64 c => if 0 ≤ l ∧ l ≤ c ∧ c ≤ 2 ^ 40 ∧ bytes * c ≤ 2 ^ 40 then
        some (.sl s.next 0 l.toNat c.toNat false, newRow s t (rep c.toNat z) none)
      else none
    | _, _ => none
  | .slS x lo hi => match ev e x with
    | .s l => match bnd e hi l.length l.length with
      | some h => match bnd e lo 0 h with
        | some l' => some (.s ((l.drop l').take (h - l')), s)
        | none => none
      | none => none
    | _ => none
  | .sl size x lo hi mx => match ev e x with
    | .sl0 => match bnd e mx 0 0 with
      | some _ => match bnd e hi 0 0 with
        | some _ => match bnd e lo 0 0 with
          | some _ => some (.sl0, s)
          | none => none
        | none => none
      | none => none
    | .sl id off len cap op => match bnd e mx cap cap with
      | some m => match bnd e hi len m with
        | some h => match bnd e lo 0 h with
          | some l => if l ≤ m then some (.sl id (off + l * size) (h - l) (m - l) (match mx with | none => op | some _ => false), s) else none
          | none => none
        | none => none
      | none => none
    | _ => none
  | .slA n size x lo hi => match ev e x with
    | .p id off => match bnd e hi n n with
      | some h => match bnd e lo 0 h with
        | some l => some (.sl id (off + l * size) (h - l) (n - l) false, s)
        | none => none
      | none => none
    | _ => none
  | .fadd o x => match ev e x with
    | .p id off => some (.p id (off + o), s)
    | _ => none
  | .fld o sz x => match ev e x with
    | .ag l => match partV sz l o with
      | some v => some (v, s)
      | none => none
    | _ => none
  | .iadd size x ix => match ev e x, ev e ix with
    | .sl id off len cap _, .i _ i => if 0 ≤ i ∧ i < len ∧ 0 < cap then some (.p id (off + i.toNat * size), s) else none
    | _, _ => none
  | .iaddA len size x ix => match ev e x, ev e ix with
    | .p id off, .i _ i => if 0 ≤ i ∧ i < len then some (.p id (off + i.toNat * size), s) else none
    | _, _ => none
  | .idxS x ix => match ev e x, ev e ix with
    | .s l, .i _ i => if 0 ≤ i then (match l[i.toNat]? with | some b => some (.i .u8 b.toNat, s) | none => none) else none
    | _, _ => none
  | .idxA len size pt x ix => match ev e x, ev e ix with
    | .ag l, .i _ i => if 0 ≤ i ∧ i < len then
        match partV pt l (i.toNat * size) with
        | some v => some (v, s)
        | none => none
      else none
    | _, _ => none
  | .lookup t z ok x ix => match mapOf s (ev e x) with
    | none => none
    | some es => match findKey t (ev e ix) es 0 with
      | some (some (_, v)) => some (if ok then .tu [v, .b true] else v, s)
      | some none => some (if ok then .tu [z, .b false] else z, s)
      | none => none
  | .mapup t x ix v => match ev e x with
    | .m id => match s.heap.get id with
      | some (.map es) => match findKey t (ev e ix) es 0 with
        | some (some (i, _)) => some (.u, { s with heap := s.heap.set id (.map (es.set i (ev e ix, ev e v))) })
        | some none => some (.u, { s with heap := s.heap.set id (.map (es ++ [(ev e ix, ev e v)])) })
        | none => none
      | _ => none
    | _ => none
  | .ext x i => match ev e x with
    | .tu l => match l[i]? with
      | some v => some (v, s)
      | none => none
    | _ => none
  | .len kd x => match kd, ev e x with
    | 0, .s l => some (.i .i64 l.length, s)
    | 1, .sl0 => some (.i .i64 0, s)
    | 1, .sl _ _ n _ _ => some (.i .i64 n, s)
    | 2, .m0 => some (.i .i64 0, s)
    | 2, .m id => match s.heap.get id with
      | some (.map es) => some (.i .i64 es.length, s)
      | _ => none
    | _, _ => none
  | .cap x => match ev e x with
    | .sl0 => some (.i .i64 0, s)
    | .sl _ _ _ c false => some (.i .i64 c, s)
    | _ => none
  | .append t size _ sx x =>
    match lenV (ev e x) with
    | none => none
    | some n => match srcCells s size n (ev e x) with
      | none => none
      | some new => match ev e sx with
        | .sl0 => if n = 0 then some (.sl0, s) else if n ≤ 2 ^ 37 then
            some (.sl s.next 0 n n true, newRow s t new (some size)) else none
        | .sl id off len cap op =>
          if len + n ≤ cap then
            match s.heap.get id with
            | some (.row t' m cs op') =>
              if off + (len + n) * size ≤ m then
                some (.sl id off (len + n) cap op, putRow s id t' m (storeAt cs (off + len * size) new) op')
              else none
            | _ => none
          else match csOf s id with
            | none => none
            | some cs => match cellsAt cs off (len * size) with
              | none => none
              | some old => if len ≤ cap ∧ len + n ≤ 2 ^ 37 then
                  match op, s.heap.get id with
                  | false, _ => some (.sl s.next 0 (len + n) (len + n) true, newRow s t (old ++ new) (some size))
                  | true, some (.row t' m _ (some sz)) => if t' = t ∧ sz = size ∧ off + cap * size = m then
                      some (.sl s.next 0 (len + n) (len + n) true, newRow { s with heap := s.heap.del id } t (old ++ new) (some size)) else none
                  | true, _ => none
                else none
        | _ => none
  | .copy size d x => match ev e d, lenV (ev e x) with
    | .sl0, some _ => some (.i .i64 0, s)
    | .sl id off len cap _, some m => if min m len = 0 then some (.i .i64 0, s) else if cap = 0 then none else
      match srcCells s size (min m len) (ev e x), s.heap.get id with
      | some l, some (.row t k cs op) => if off + l.length ≤ k then some (.i .i64 ((min m len : Nat) : Int), putRow s id t k (storeAt cs off l) op) else none
      | _, _ => none
    | _, _ => none
  | .clr z x => match ev e x with
    | .sl0 => some (.u, s)
    | .sl id off len cap _ => if len = 0 then some (.u, s) else if cap = 0 then none else match s.heap.get id with
      | some (.row t k cs op) => if off + len * z.length ≤ k then some (.u, putRow s id t k (storeAt cs off (rep len z)) op) else none
      | _ => none
    | _ => none
  | .del t x ix => match ev e x with
    | .m0 => some (.u, s)
    | .m id => match s.heap.get id with
      | some (.map es) => match findKey t (ev e ix) es 0 with
        | some (some (i, _)) => some (.u, { s with heap := s.heap.set id (.map (es.eraseIdx i)) })
        | some none => some (.u, { s with heap := s.heap.set id (.map es) })
        | none => none
      | _ => none
    | _ => none
  | .min l => match mm false (evs e l) with
    | some v => some (v, s)
    | none => none
  | .max l => match mm true (evs e l) with
    | some v => some (v, s)
    | none => none
  | .call .. | .bad => none
end Go.Av
