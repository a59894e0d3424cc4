/- The same run, laid out so that the kernel copies little: each operation, each kind of code is a constant of its own. Generic: no program in it. -/
import Derived.Test.YtbjmmkfaikkidaaGreatAvW
set_option linter.constructorNameAsVariable false
set_option linter.unusedVariables false
namespace Go.Av

def q_mv (x : KO) (e : Env) (s : St) : Option (AV × St) := some (ev e x, s)

def q_pick (c : KO) (a : KO) (b : KO) (e : Env) (s : St) : Option (AV × St) := match ev e c with
    | .b true => some (ev e a, s)
    | .b false => some (ev e b, s)
    | _ => none

def q_newv (t : Nat) (z : List AV) (e : Env) (s : St) : Option (AV × St) := some (.p s.next 0, newRow s t z none)

def q_box (t : Nat) (x : KO) (e : Env) (s : St) : Option (AV × St) := some (.p s.next 0, newRow s t (ev e x).cells none)

def q_build (z : List AV) (ps : List (Nat × Nat × KO)) (e : Env) (s : St) : Option (AV × St) := match fillAll e z ps with
    | some l => some (.ag l, s)
    | none => none

def q_bslice (t : Nat) (n : Nat) (z : List AV) (ps : List (Nat × Nat × KO)) (e : Env) (s : St) : Option (AV × St) := match fillAll e (rep n z) ps with
    | some l => some (.sl s.next 0 n n false, newRow s t l none)
    | none => none

def q_ld1 (x : KO) (e : Env) (s : St) : Option (AV × St) := match ev e x with
    | .p id off => match csOf s id with
      | some cs => match cs.get off with
        | some v => some (v, s)
        | none => none
      | none => none
    | _ => none

def q_ldn (n : Nat) (x : KO) (e : Env) (s : St) : Option (AV × St) := match ev e x with
    | .p id off => match csOf s id with
      | some cs => match cellsAt cs off n with
        | some l => some (.ag l, s)
        | none => none
      | none => none
    | _ => none

def q_st (n : Nat) (x : KO) (v : KO) (e : Env) (s : St) : Option (AV × St) := match ev e x with
    | .p id off => match s.heap.get id with
      | some (.row t m cs op) =>
        if (ev e v).cells.length = n ∧ off + n ≤ m ∧ (ev e v).cells.all AV.one = true then some (.u, putRow s id t m (storeAt cs off (ev e v).cells) op) else none
      | _ => none
    | _ => none

def q_nchk (ok : Nat → String → Bool) (x : KO) (e : Env) (s : St) : Option (AV × St) := match ev e x with
    | .p a b => some (.p a b, s)
    | .ifc t v => some (.ifc t v, s)
    | .f g a b => some (.f g a b, s)
    | .fm m (.ifc t v :: l) b => match ok t m with
      | true => some (.fm m (.ifc t v :: l) b, s)
      | false => none
    | _ => none

def q_bin (op : BinOp) (x : KO) (y : KO) (e : Env) (s : St) : Option (AV × St) := match binv op (ev e x) (ev e y) with
    | some v => some (v, s)
    | none => none

def q_eq (neg : Bool) (t : EqT) (x : KO) (y : KO) (e : Env) (s : St) : Option (AV × St) := match eqv s t (ev e x) (ev e y) with
    | some r => some (.b (neg != r), s)
    | none => none

def q_un (op : UnOp) (x : KO) (e : Env) (s : St) : Option (AV × St) := match op, ev e x with
    | .not, .b x => some (.b (!x), s)
    | .neg, .i k n => some (.i k (k.wrap (0 - n)), s)
    | .xor, .i k n => match binv .xor (.i k (if k.signed then -1 else k.max)) (.i k n) with
      | some v => some (v, s)
      | none => none
    | _, _ => none

def q_cvi (k : IntKind) (x : KO) (e : Env) (s : St) : Option (AV × St) := match ev e x with
    | .i _ n => some (.i k (k.wrap n), s)
    | _ => none

def q_cvid (x : KO) (e : Env) (s : St) : Option (AV × St) := match ev e x with
    | .s l => some (.s l, s)
    | _ => none

def q_cvf (k : FloatKind) (x : KO) (e : Env) (s : St) : Option (AV × St) := match ev e x with
    | .i _ n => some (.fl k (k.nearest n), s)
    | _ => none

def q_cvsb (t : Nat) (x : KO) (e : Env) (s : St) : Option (AV × St) := match ev e x with
    | .s l => if l.length ≤ 2 ^ 40 then some (.sl s.next 0 l.length l.length true, newRow s t (l.map fun b => .i .u8 b.toNat) (some 1)) else none
    | _ => none

def q_cvbs (x : KO) (e : Env) (s : St) : Option (AV × St) := match ev e x with
    | .sl0 => some (.s [], s)
    | .sl id off n cap _ => if n = 0 then some (.s [], s) else if cap = 0 then none else match csOf s id with
      | some cs => match cellsAt cs off n with
        | some l => match bytesOfCells l with
          | some l => some (.s l, s)
          | none => none
        | none => none
      | none => none
    | _ => none

def q_mkif (t : Nat) (x : KO) (e : Env) (s : St) : Option (AV × St) := some (.ifc t (ev e x), s)

def q_mkf (g : Nat) (a : List KO) (b : List KO) (e : Env) (s : St) : Option (AV × St) := some (.f g (evs e a) (evs e b), s)

def q_mkfm (m : String) (a : List KO) (b : List KO) (e : Env) (s : St) : Option (AV × St) := some (.fm m (evs e a) (evs e b), s)

def q_mkmap  (e : Env) (s : St) : Option (AV × St) := some (.m s.next, { heap := s.heap.set s.next (.map []), next := s.next + 1 })

def q_mkslice (t : Nat) (bytes : Nat) (z : List AV) (l : KO) (c : KO) (e : Env) (s : St) : Option (AV × St) := match ev e l, ev e c with
    | .i .i64 l, .i .i64 c => if 0 ≤ l ∧ l ≤ c ∧ c ≤ 2 ^ 40 ∧ bytes * c ≤ 2 ^ 40 then
        some (.sl s.next 0 l.toNat c.toNat false, newRow s t (rep c.toNat z) none)
      else none
    | _, _ => none

def q_slS (x : KO) (lo : Option KO) (hi : Option KO) (e : Env) (s : St) : Option (AV × St) := match ev e x with
    | .s l => match bnd e hi l.length l.length with
      | some h => match bnd e lo 0 h with
        | some l' => some (.s ((l.drop l').take (h - l')), s)
        | none => none
      | none => none
    | _ => none

def q_sl (size : Nat) (x : KO) (lo : Option KO) (hi : Option KO) (mx : Option KO) (e : Env) (s : St) : Option (AV × St) := match ev e x with
    | .sl0 => match bnd e mx 0 0 with
      | some _ => match bnd e hi 0 0 with
        | some _ => match bnd e lo 0 0 with
          | some _ => some (.sl0, s)
          | none => none
        | none => none
      | none => none
    | .sl id off len cap op => match bnd e mx cap cap with
      | some m => match bnd e hi len m with
        | some h => match bnd e lo 0 h with
          | some l => if l ≤ m then some (.sl id (off + l * size) (h - l) (m - l) (match mx with | none => op | some _ => false), s) else none
          | none => none
        | none => none
      | none => none
    | _ => none

def q_slA (n : Nat) (size : Nat) (x : KO) (lo : Option KO) (hi : Option KO) (e : Env) (s : St) : Option (AV × St) := match ev e x with
    | .p id off => match bnd e hi n n with
      | some h => match bnd e lo 0 h with
        | some l => some (.sl id (off + l * size) (h - l) (n - l) false, s)
        | none => none
      | none => none
    | _ => none

def q_fadd (o : Nat) (x : KO) (e : Env) (s : St) : Option (AV × St) := match ev e x with
    | .p id off => some (.p id (off + o), s)
    | _ => none

def q_fld (o : Nat) (sz : Option Nat) (x : KO) (e : Env) (s : St) : Option (AV × St) := match ev e x with
    | .ag l => match partV sz l o with
      | some v => some (v, s)
      | none => none
    | _ => none

def q_iadd (size : Nat) (x : KO) (ix : KO) (e : Env) (s : St) : Option (AV × St) := match ev e x, ev e ix with
    | .sl id off len cap _, .i _ i => if 0 ≤ i ∧ i < len ∧ 0 < cap then some (.p id (off + i.toNat * size), s) else none
    | _, _ => none

def q_iaddA (len : Nat) (size : Nat) (x : KO) (ix : KO) (e : Env) (s : St) : Option (AV × St) := match ev e x, ev e ix with
    | .p id off, .i _ i => if 0 ≤ i ∧ i < len then some (.p id (off + i.toNat * size), s) else none
    | _, _ => none

def q_idxS (x : KO) (ix : KO) (e : Env) (s : St) : Option (AV × St) := match ev e x, ev e ix with
    | .s l, .i _ i => if 0 ≤ i then (match l[i.toNat]? with | some b => some (.i .u8 b.toNat, s) | none => none) else none
    | _, _ => none

def q_idxA (len : Nat) (size : Nat) (pt : Option Nat) (x : KO) (ix : KO) (e : Env) (s : St) : Option (AV × St) := match ev e x, ev e ix with
    | .ag l, .i _ i => if 0 ≤ i ∧ i < len then
        match partV pt l (i.toNat * size) with
        | some v => some (v, s)
        | none => none
      else none
    | _, _ => none

def q_lookup (t : EqT) (z : AV) (ok : Bool) (x : KO) (ix : KO) (e : Env) (s : St) : Option (AV × St) := match mapOf s (ev e x) with
    | none => none
    | some es => match findKey t (ev e ix) es 0 with
      | some (some (_, v)) => some (if ok then .tu [v, .b true] else v, s)
      | some none => some (if ok then .tu [z, .b false] else z, s)
      | none => none

def q_mapup (t : EqT) (x : KO) (ix : KO) (v : KO) (e : Env) (s : St) : Option (AV × St) := match ev e x with
    | .m id => match s.heap.get id with
      | some (.map es) => match findKey t (ev e ix) es 0 with
        | some (some (i, _)) => some (.u, { s with heap := s.heap.set id (.map (es.set i (ev e ix, ev e v))) })
        | some none => some (.u, { s with heap := s.heap.set id (.map (es ++ [(ev e ix, ev e v)])) })
        | none => none
      | _ => none
    | _ => none

def q_ext (x : KO) (i : Nat) (e : Env) (s : St) : Option (AV × St) := match ev e x with
    | .tu l => match l[i]? with
      | some v => some (v, s)
      | none => none
    | _ => none

def q_len (kd : Nat) (x : KO) (e : Env) (s : St) : Option (AV × St) := match kd, ev e x with
    | 0, .s l => some (.i .i64 l.length, s)
    | 1, .sl0 => some (.i .i64 0, s)
    | 1, .sl _ _ n _ _ => some (.i .i64 n, s)
    | 2, .m0 => some (.i .i64 0, s)
    | 2, .m id => match s.heap.get id with
      | some (.map es) => some (.i .i64 es.length, s)
      | _ => none
    | _, _ => none

def q_cap (x : KO) (e : Env) (s : St) : Option (AV × St) := match ev e x with
    | .sl0 => some (.i .i64 0, s)
    | .sl _ _ _ c false => some (.i .i64 c, s)
    | _ => none

def q_append (t : Nat) (size : Nat) (u2 : Nat) (sx : KO) (x : KO) (e : Env) (s : St) : Option (AV × St) :=
    match lenV (ev e x) with
    | none => none
    | some n => match srcCells s size n (ev e x) with
      | none => none
      | some new => match ev e sx with
        | .sl0 => if n = 0 then some (.sl0, s) else if n ≤ 2 ^ 37 then
            some (.sl s.next 0 n n true, newRow s t new (some size)) else none
        | .sl id off len cap op =>
          if len + n ≤ cap then
            match s.heap.get id with
            | some (.row t' m cs op') =>
              if off + (len + n) * size ≤ m then
                some (.sl id off (len + n) cap op, putRow s id t' m (storeAt cs (off + len * size) new) op')
              else none
            | _ => none
          else match csOf s id with
            | none => none
            | some cs => match cellsAt cs off (len * size) with
              | none => none
              | some old => if len ≤ cap ∧ len + n ≤ 2 ^ 37 then
                  match op, s.heap.get id with
                  | false, _ => some (.sl s.next 0 (len + n) (len + n) true, newRow s t (old ++ new) (some size))
                  | true, some (.row t' m _ (some sz)) => if t' = t ∧ sz = size ∧ off + cap * size = m then
                      some (.sl s.next 0 (len + n) (len + n) true, newRow { s with heap := s.heap.del id } t (old ++ new) (some size)) else none
                  | true, _ => none
                else none
        | _ => none

def q_copy (size : Nat) (d : KO) (x : KO) (e : Env) (s : St) : Option (AV × St) := match ev e d, lenV (ev e x) with
    | .sl0, some _ => some (.i .i64 0, s)
    | .sl id off len cap _, some m => if min m len = 0 then some (.i .i64 0, s) else if cap = 0 then none else
      match srcCells s size (min m len) (ev e x), s.heap.get id with
      | some l, some (.row t k cs op) => if off + l.length ≤ k then some (.i .i64 ((min m len : Nat) : Int), putRow s id t k (storeAt cs off l) op) else none
      | _, _ => none
    | _, _ => none

def q_clr (z : List AV) (x : KO) (e : Env) (s : St) : Option (AV × St) := match ev e x with
    | .sl0 => some (.u, s)
    | .sl id off len cap _ => if len = 0 then some (.u, s) else if cap = 0 then none else match s.heap.get id with
      | some (.row t k cs op) => if off + len * z.length ≤ k then some (.u, putRow s id t k (storeAt cs off (rep len z)) op) else none
      | _ => none
    | _ => none

def q_del (t : EqT) (x : KO) (ix : KO) (e : Env) (s : St) : Option (AV × St) := match ev e x with
    | .m0 => some (.u, s)
    | .m id => match s.heap.get id with
      | some (.map es) => match findKey t (ev e ix) es 0 with
        | some (some (i, _)) => some (.u, { s with heap := s.heap.set id (.map (es.eraseIdx i)) })
        | some none => some (.u, { s with heap := s.heap.set id (.map es) })
        | none => none
      | _ => none
    | _ => none

def q_min (l : List KO) (e : Env) (s : St) : Option (AV × St) := match mm false (evs e l) with
    | some v => some (v, s)
    | none => none

def q_max (l : List KO) (e : Env) (s : St) : Option (AV × St) := match mm true (evs e l) with
    | some v => some (v, s)
    | none => none

def qNone (e : Env) (s : St) : Option (AV × St) := none
def qEv (op : KOp) : Env → St → Option (AV × St) := match op with
  | .mv x => q_mv x
  | .pick c a b => q_pick c a b
  | .newv t z => q_newv t z
  | .box t x => q_box t x
  | .build z ps => q_build z ps
  | .bslice t n z ps => q_bslice t n z ps
  | .ld1 x => q_ld1 x
  | .ldn n x => q_ldn n x
  | .st n x v => q_st n x v
  | .nchk ok x => q_nchk ok x
  | .bin op x y => q_bin op x y
  | .eq neg t x y => q_eq neg t x y
  | .un op x => q_un op x
  | .cvi k x => q_cvi k x
  | .cvid x => q_cvid x
  | .cvf k x => q_cvf k x
  | .cvsb t x => q_cvsb t x
  | .cvbs x => q_cvbs x
  | .mkif t x => q_mkif t x
  | .mkf g a b => q_mkf g a b
  | .mkfm m a b => q_mkfm m a b
  | .mkmap => q_mkmap
  | .mkslice t bytes z l c => q_mkslice t bytes z l c
  | .slS x lo hi => q_slS x lo hi
  | .sl size x lo hi mx => q_sl size x lo hi mx
  | .slA n size x lo hi => q_slA n size x lo hi
  | .fadd o x => q_fadd o x
  | .fld o sz x => q_fld o sz x
  | .iadd size x ix => q_iadd size x ix
  | .iaddA len size x ix => q_iaddA len size x ix
  | .idxS x ix => q_idxS x ix
  | .idxA len size pt x ix => q_idxA len size pt x ix
  | .lookup t z ok x ix => q_lookup t z ok x ix
  | .mapup t x ix v => q_mapup t x ix v
  | .ext x i => q_ext x i
  | .len kd x => q_len kd x
  | .cap x => q_cap x
  | .append t size u2 sx x => q_append t size u2 sx x
  | .copy size d x => q_copy size d x
  | .clr z x => q_clr z x
  | .del t x ix => q_del t x ix
  | .min l => q_min l
  | .max l => q_max l
  | .call .. | .bad => qNone
theorem qEv_eq (op : KOp) : qEv op = fun e s => evOp e s op := by
  cases op <;> rfl


abbrev RC := Option (Ex × Env × St)
abbrev RV := Option (AV × St)
abbrev RO := Option (Env × St)
def kSkip (e : Env) (s : St) : RC := some (.norm, e, s)
def kRet (e : Env) (s : St) : RC := some (.ret, e, s)
def kBad (_ : Env) (_ : St) : RC := none
def kExit (id : Nat) (e : Env) (s : St) : RC := some (.ex id, e, s)
def kReg (f : List KOper → Env → St → RO) (ops : List KOper) (e : Env) (s : St) : RC := match f ops e s with
  | some (e, s) => some (.norm, e, s)
  | none => none
def kDraw (f : List KOper → Env → St → List St → List Go.Av.Read → RO) (ops : List KOper) (e : Env) (s : St) : RC := match f ops e s [s] [] with
  | some (e, s) => some (.norm, e, s)
  | none => none
def kSeq (f : KCode → Env → St → RC) (a b : KCode) (e : Env) (s : St) : RC := match f a e s with
  | some (.norm, e, s) => f b e s
  | r => r
def kCond (f : KCode → Env → St → RC) (c : KO) (a b : KCode) (e : Env) (s : St) : RC := match ev e c with
  | .b true => f a e s
  | .b false => f b e s
  | _ => none
def kBlock (f : KCode → Env → St → RC) (id : Nat) (c : KCode) (e : Env) (s : St) : RC := match f c e s with
  | some (.ex j, e, s) => match Nat.beq j id with
    | true => some (.norm, e, s)
    | false => some (.ex j, e, s)
  | r => r
def kLoop (f : KCode → Env → St → RC) (c : KCode) (e : Env) (s : St) : RC := match f c e s with
  | some (.norm, e, s) => f (.loop c) e s
  | r => r
def kRng1 (id : Nat) (e : Env) (s1 : St) : RC := match s1.heap.get id with
  | some (.loop .ready none nt2 e2 ps2 ca2 cb2) => some (.norm, e, setLoop s1 id .exhausted none nt2 e2 ps2 ca2 cb2)
  | some (.loop .done (some .ret) nt2 e2 ps2 ca2 cb2) => some (.ret, e, setLoop s1 id .exhausted (some .ret) nt2 e2 ps2 ca2 cb2)
  | some (.loop .done (some (.exit j)) nt2 e2 ps2 ca2 cb2) => some (.ex j, e, setLoop s1 id .exhausted (some (.exit j)) nt2 e2 ps2 ca2 cb2)
  | _ => none
def kRng (f : Nat → List AV → St → RV) (g : KO) (nt : Nat) (ps : List Nat) (ca cb : Code) (e : Env) (s : St) : RC := match ev e g with
  | .f h a b => match f h (a ++ .yd s.next :: b) { heap := s.heap.set s.next (.loop .ready none nt e ps ca cb), next := s.next + 1 } with
    | some (_, s1) => kRng1 s.next e s1
    | none => none
  | _ => none
def kRound3 (id : Nat) (x : Ex) (s2 : St) : RV := match s2.heap.get id with
  | some (.loop _ _ nt3 e3 ps3 ca3 cb3) => match x with
    | .norm => some (.b true, setLoop s2 id .ready none nt3 e3 ps3 ca3 cb3)
    | .ret => some (.b false, setLoop s2 id .done (some .ret) nt3 e3 ps3 ca3 cb3)
    | .ex j => some (.b false, setLoop s2 id .done (some (.exit j)) nt3 e3 ps3 ca3 cb3)
  | _ => none
def kRound2 (cx : Cx) (f : KCode → Env → St → RC) (id nt : Nat) (cb : Code) (e1 : Env) (s1 : St) : RV := match s1.heap.get id with
  | some (.loop .ready pend nt2 e2 ps2 ca2 cb2) => match f (cx.comp nt cb) e1 (setLoop s1 id .busy pend nt2 e2 ps2 ca2 cb2) with
    | some (x, _, s2) => kRound3 id x s2
    | none => none
  | _ => none
def kRound1 (cx : Cx) (f : KCode → Env → St → RC) (id : Nat) (vs : List AV) (s : St) (nt : Nat) (e : Tr AV) (ps : List Nat) (ca cb : Code) : RV :=
  match Nat.beq vs.length ps.length && (ps.all (fun p => Nat.blt p nt) && (noRng ca && noRng cb)) with
  | true => match f (cx.comp nt ca) (putAll e ps vs) s with
    | some (.norm, e1, s1) => kRound2 cx f id nt cb e1 s1
    | _ => none
  | false => none
def kRound (cx : Cx) (f : KCode → Env → St → RC) (id : Nat) (vs : List AV) (s : St) : RV := match s.heap.get id with
  | some (.loop .ready _ nt e ps ca cb) => kRound1 cx f id vs s nt e ps ca cb
  | _ => none
def kCall (cx : Cx) (fR : Nat → List AV → St → RV) (fF : Nat → List AV → St → RV) (c : KCallee) (args : List KO) (e : Env) (s : St) : RV := match yielded? e c args with
  | some (id, vs) => fR id vs s
  | none => match target cx e c args with
    | some (g, vs) => fF g vs s
    | none => none
def kOps1 (fO : KOp → Env → St → RV) (f : List KOper → Env → St → RO) (o : KOper) (r : List KOper) (e : Env) (s : St) : RO := match fO o.op e s with
  | some (v, s) => f r (put e o.dst v) s
  | none => none
def kOps0 (f : List KOper → Env → St → RO) (o : KOper) (r : List KOper) (e : Env) (s : St) : RO := f r (put e o.dst .u) s
def kOps (fO : KOp → Env → St → RV) (f : List KOper → Env → St → RO) (o : KOper) (r : List KOper) (e : Env) (s : St) : RO := match wanted e o.guard with
  | true => kOps1 fO f o r e s
  | false => kOps0 f o r e s
def kNil (e : Env) (s : St) : RO := some (e, s)
def kDrawNil (e : Env) (s : St) (stages : List St) (reads : List Go.Av.Read) : RO := match checkReads stages.reverse reads with
  | true => some (e, s)
  | false => none
def kDraw1 (fO : KOp → Env → St → RV) (f : List KOper → Env → St → List St → List Go.Av.Read → RO) (o : KOper) (r : List KOper) (e : Env) (s : St) (stages : List St) (reads : List Go.Av.Read) : RO := match fO o.op e s with
  | some (v, s) => f r (put e o.dst v) s (match isWr o with | true => s :: stages | false => stages) (match o.win with | some (a, b) => ⟨o.op, e, v, a, b⟩ :: reads | none => reads)
  | none => none
def kDraw0 (f : List KOper → Env → St → List St → List Go.Av.Read → RO) (o : KOper) (r : List KOper) (e : Env) (s : St) (stages : List St) (reads : List Go.Av.Read) : RO :=
  f r (put e o.dst .u) s (match isWr o with | true => s :: stages | false => stages) reads
def kDrawC (fO : KOp → Env → St → RV) (f : List KOper → Env → St → List St → List Go.Av.Read → RO) (o : KOper) (r : List KOper) (e : Env) (s : St) (stages : List St) (reads : List Go.Av.Read) : RO := match wanted e o.guard with
  | true => kDraw1 fO f o r e s stages reads
  | false => kDraw0 f o r e s stages reads
def kRes (e : Env) (s : St) (rs : List KRes) : RV := match resultsV e s rs with
  | some [v] => some (v, s)
  | some l => some (.tu l, s)
  | none => none
def kFunc (f : KCode → Env → St → RC) (k : KFunc) (vs : List AV) (s : St) : RV := match Nat.ble vs.length k.nt with
  | false => none
  | true => match f k.body (Tr.ofList vs) s with
    | some (.ex _, _, _) => none
    | some (_, e, s) => kRes e s k.res
    | none => none
def kF (cx : Cx) (f : KCode → Env → St → RC) (g : Nat) (vs : List AV) (s : St) : RV := match cx.orc g with
  | some F => F vs s
  | none => match cx.funcs.get g with
    | none => none
    | some k => kFunc f k vs s
def z3 {α β γ : Type} {δ : Type} (_ : α) (_ : β) (_ : γ) : Option δ := none
def z5 {α β γ ε ζ : Type} {δ : Type} (_ : α) (_ : β) (_ : γ) (_ : ε) (_ : ζ) : Option δ := none

mutual
def qC (cx : Cx) : Nat → KCode → Env → St → RC
  | 0 => z3
  | n + 1 => fun c => match c with
    | .skip => kSkip
    | .ret => kRet
    | .bad => kBad
    | .region false ops => kReg (qOps cx n) ops
    | .region true ops => kDraw (qDraw cx n) ops
    | .seq a b => kSeq (qC cx n) a b
    | .cond c a b => kCond (qC cx n) c a b
    | .block id c => kBlock (qC cx n) id c
    | .loop c => kLoop (qC cx n) c
    | .exit id => kExit id
    | .rng g nt ps ca cb => kRng (qF cx n) g nt ps ca cb
def qR (cx : Cx) : Nat → Nat → List AV → St → RV
  | 0 => z3
  | n + 1 => kRound cx (qC cx n)
def qO (cx : Cx) : Nat → KOp → Env → St → RV
  | 0 => z3
  | n + 1 => fun op => match op with
    | .call c args => kCall cx (qR cx n) (qF cx n) c args
    | op => qEv op
def qOps (cx : Cx) : Nat → List KOper → Env → St → RO
  | 0 => z3
  | n + 1 => fun l => match l with
    | [] => kNil
    | o :: r => kOps (qO cx n) (qOps cx n) o r
def qDraw (cx : Cx) : Nat → List KOper → Env → St → List St → List Go.Av.Read → RO
  | 0 => z5
  | n + 1 => fun l => match l with
    | [] => kDrawNil
    | o :: r => kDrawC (qO cx n) (qDraw cx n) o r
def qF (cx : Cx) : Nat → Nat → List AV → St → RV
  | 0 => z3
  | n + 1 => kF cx (qC cx n)
end

theorem qAll_eq (cx : Cx) (n : Nat) : (∀ c e s, qC cx n c e s = runC cx n c e s) ∧ (∀ id vs s, qR cx n id vs s = runR cx n id vs s) ∧ (∀ op e s, qO cx n op e s = runO cx n op e s) ∧
    (∀ l e s, qOps cx n l e s = runOps cx n l e s) ∧ (∀ l e s sg rd, qDraw cx n l e s sg rd = runDraw cx n l e s sg rd) ∧ (∀ g vs s, qF cx n g vs s = runF cx n g vs s) := by
  induction n with
  | zero => refine ⟨?_, ?_, ?_, ?_, ?_, ?_⟩ <;> intros <;> simp [qC, qR, qO, qOps, qDraw, qF, runC, runR, runO, runOps, runDraw, runF, z3, z5]
  | succ n ih =>
    obtain ⟨hC, hR, hO, hOps, hD, hF⟩ := ih
    have eC : qC cx n = runC cx n := by funext c e s; exact hC c e s
    have eR : qR cx n = runR cx n := by funext c e s; exact hR c e s
    have eO : qO cx n = runO cx n := by funext c e s; exact hO c e s
    have eOps : qOps cx n = runOps cx n := by funext c e s; exact hOps c e s
    have eD : qDraw cx n = runDraw cx n := by funext c e s sg rd; exact hD c e s sg rd
    have eF : qF cx n = runF cx n := by funext c e s; exact hF c e s
    refine ⟨?_, ?_, ?_, ?_, ?_, ?_⟩
    · intro c e s
      cases c with
      | region d ops =>
        cases d <;> simp only [qC, runC, eOps, eD, kReg, kDraw] <;> (repeat' split) <;> simp_all
      | block id c =>
        simp only [qC, runC, eC, kBlock]
        cases h : runC cx n c e s with
        | none => rfl
        | some r =>
          obtain ⟨x, e1, s1⟩ := r
          cases x with
          | ex j =>
            simp only
            by_cases hj : j = id
            · subst hj; simp
            · rw [if_neg hj]
              cases hb : Nat.beq j id with
              | true => exact absurd (Nat.eq_of_beq_eq_true hb) hj
              | false => rfl
          | norm => rfl
          | ret => rfl
      | rng g nt ps ca cb =>
        simp only [qC, runC, eF, kRng, kRng1]
        cases ev e g <;> rfl
      | seq a b =>
        simp only [qC, runC, eC, kSeq]
        cases h : runC cx n a e s with
        | none => rfl
        | some r => obtain ⟨x, e1, s1⟩ := r; cases x <;> rfl
      | cond c a b => simp only [qC, runC, eC, kCond]; rfl
      | loop c =>
        simp only [qC, runC, eC, kLoop]
        cases h : runC cx n c e s with
        | none => rfl
        | some r => obtain ⟨x, e1, s1⟩ := r; cases x <;> rfl
      | _ => rfl
    · intro id vs s
      simp only [qR, runR, eC, kRound]
      cases s.heap.get id with
      | none => rfl
      | some o =>
        cases o with
        | loop st pd nt e ps ca cb =>
          cases st <;> rfl
        | _ => rfl
    · intro op e s
      cases op with
      | call c l =>
        simp only [qO, runO, eR, eF, kCall]
        cases yielded? e c l with
        | none => simp only; cases target cx e c l <;> rfl
        | some r => rfl
      | _ => simp only [qO, runO, qEv_eq]
    · intro l e s
      cases l with
      | nil => rfl
      | cons o r =>
        simp only [qOps, runOps, eO, eOps, kOps, kOps1, kOps0]
        cases wanted e o.guard with
        | false => rfl
        | true => simp only; cases runO cx n o.op e s <;> rfl
    · intro l e s sg rd
      cases l with
      | nil => rfl
      | cons o r =>
        simp only [qDraw, runDraw, eO, eD, kDrawC, kDraw1, kDraw0]
        cases wanted e o.guard with
        | false => rfl
        | true => simp only; cases runO cx n o.op e s <;> rfl
    · intro g vs s
      simp only [qF, runF, eC, kF]
      cases cx.orc g with
      | some F => rfl
      | none =>
        simp only
        cases cx.funcs.get g with
        | none => rfl
        | some k =>
          simp only [kFunc]
          cases Nat.ble vs.length k.nt with
          | false => rfl
          | true =>
            simp only
            generalize runC cx n k.body (Tr.ofList vs) s = r
            cases r with
            | none => rfl
            | some r =>
              obtain ⟨x, e1, s1⟩ := r
              cases x <;> simp only [kRes] <;> first
                | rfl
                | (cases resultsV e1 s1 k.res with
                   | none => rfl
                   | some l => cases l with
                     | nil => rfl
                     | cons y t => cases t <;> rfl)
theorem qF_run {cx : Cx} {n g : Nat} {vs : List AV} {s : St} : qF cx n g vs s = runF cx n g vs s := (qAll_eq cx n).2.2.2.2.2 g vs s
end Go.Av
