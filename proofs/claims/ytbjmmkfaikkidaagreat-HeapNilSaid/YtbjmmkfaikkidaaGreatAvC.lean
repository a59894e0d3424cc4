/- Running compact code on the abstract heap. Generic: no program in it. -/
import Derived.Test.YtbjmmkfaikkidaaGreatAvB
set_option linter.constructorNameAsVariable false
namespace Go.Av

inductive Ex where
  | norm | ex (id : Nat) | ret

def put (e : Env) (d : Option Nat) (v : AV) : Env :=
  match d with
  | some d => e.set d v
  | none => e

def wanted (e : Env) (g : Option (Option Nat × Bool)) : Bool :=
  match g with
  | none => true
  | some (none, _) => false
  | some (some t, w) => match e.get t with
    | some (.b x) => x == w
    | _ => false

def resultsV (e : Env) (s : St) : List KRes → Option (List AV)
  | [] => some []
  | .t n :: r => match resultsV e s r with
    | some l => some (ev e (.t n) :: l)
    | none => none
  | .c1 a :: r => match ev e (.t a), resultsV e s r with
    | .p id off, some l => match csOf s id with
      | some cs => match cs.get off with
        | some v => some (v :: l)
        | none => none
      | none => none
    | _, _ => none
  | .cn a n :: r => match ev e (.t a), resultsV e s r with
    | .p id off, some l => match csOf s id with
      | some cs => match cellsAt cs off n with
        | some v => some (.ag v :: l)
        | none => none
      | none => none
    | _, _ => none

/-- is it a call of a loop's body? -/
def yielded? (e : Env) (c : KCallee) (args : List KO) : Option (Nat × List AV) :=
  match c with
  | .val x => match ev e x with
    | .yd id => some (id, evs e args)
    | _ => none
  | _ => none
def putAll (e : Env) : List Nat → List AV → Env
  | p :: ps, v :: vs => putAll (e.set p v) ps vs
  | _, _ => e
def noRng : Code → Bool
  | .seq a b => noRng a && noRng b
  | .cond _ a b => noRng a && noRng b
  | .block _ c => noRng c
  | .loop c => noRng c
  | .rangeFunc .. => false
  | _ => true
def setLoop (s : St) (id : Nat) (st : LoopState) (pend : Option Code) (nt : Nat) (e : Tr AV) (ps : List Nat) (ca cb : Code) : St := { s with heap := s.heap.set id (.loop st pend nt e ps ca cb) }

def target (cx : Cx) (e : Env) (c : KCallee) (args : List KO) : Option (Nat × List AV) :=
  match c with
  | .fn g => some (g, evs e args)
  | .val x => match ev e x with
    | .f g a b => some (g, a ++ evs e args ++ b)
    | _ => none
  | .inv x m => match ev e x with
    | .ifc t v => match cx.meth t m with
      | some g => some (g, v :: evs e args)
      | none => none
    | _ => none

mutual
def AV.beq : AV → AV → Bool
  | .b x, .b y => x == y
  | .i j x, .i k y => (if j = k then true else false) && x == y
  | .s x, .s y => eqb x y
  | .fl j x, .fl k y => (if j = k then true else false) && x == y
  | .p0, .p0 => true
  | .p x y, .p x' y' => x == x' && y == y'
  | .sl0, .sl0 => true
  | .sl x y z u v, .sl x' y' z' u' v' => x == x' && y == y' && z == z' && u == u' && v == v'
  | .m0, .m0 => true
  | .m x, .m y => x == y
  | .f0, .f0 => true
  | .f g x y, .f g' x' y' => g == g' && AV.beqs x x' && AV.beqs y y'
  | .fm g x y, .fm g' x' y' => g == g' && AV.beqs x x' && AV.beqs y y'
  | .yd x, .yd y => x == y
  | .uk x, .uk y => x == y
  | .n0, .n0 => true
  | .ifc t x, .ifc t' y => t == t' && AV.beq x y
  | .ag x, .ag y => AV.beqs x y
  | .tu x, .tu y => AV.beqs x y
  | _, _ => false
def AV.beqs : List AV → List AV → Bool
  | [], [] => true
  | x :: xs, y :: ys => AV.beq x y && AV.beqs xs ys
  | _, _ => false
end

/-- does an operation give the same value in each of some heaps? -/
def sameIn (op : KOp) (e : Env) (v : AV) : List St → Bool
  | [] => true
  | s :: r => match evOp e s op with
    | some (v', _) => AV.beq v' v && sameIn op e v r
    | none => false

def isWr (k : KOper) : Bool := match k.op.cls with | 3 => true | _ => false
def isMk (k : KOper) : Bool := match k.op.cls with | 2 => true | _ => false
structure Read where
  op : KOp
  e : Env
  v : AV
  lo : Nat
  hi : Nat

def checkReads (stages : List St) : List Read → Bool
  | [] => true
  | r :: l => sameIn r.op r.e r.v ((stages.drop r.lo).take (r.hi + 1 - r.lo)) && checkReads stages l

mutual
def runC (cx : Cx) : Nat → KCode → Env → St → Option (Ex × Env × St)
  | 0, _, _, _ => none
  | n + 1, c, e, s => match c with
    | .skip => some (.norm, e, s)
    | .ret => some (.ret, e, s)
    | .bad => none
    | .region false ops => match runOps cx n ops e s with
      | some (e, s) => some (.norm, e, s)
      | none => none
    | .region true ops => match runDraw cx n ops e s [s] [] with
      | some (e, s) => some (.norm, e, s)
      | none => none
    | .seq a b => match runC cx n a e s with
      | some (.norm, e, s) => runC cx n b e s
      | r => r
    | .cond c a b => match ev e c with
      | .b true => runC cx n a e s
      | .b false => runC cx n b e s
      | _ => none
    | .block id c => match runC cx n c e s with
      | some (.ex j, e, s) => if j = id then some (.norm, e, s) else some (.ex j, e, s)
      | r => r
    | .loop c => match runC cx n c e s with
      | some (.norm, e, s) => runC cx n (.loop c) e s
      | r => r
    | .exit id => some (.ex id, e, s)
    | .rng g nt ps ca cb => match ev e g with
      | .f h a b => match runF cx n h (a ++ .yd s.next :: b) { heap := s.heap.set s.next (.loop .ready none nt e ps ca cb), next := s.next + 1 } with
        | some (_, s1) => match s1.heap.get s.next with
          | some (.loop .ready none nt2 e2 ps2 ca2 cb2) => some (.norm, e, setLoop s1 s.next .exhausted none nt2 e2 ps2 ca2 cb2)
          | some (.loop .done (some .ret) nt2 e2 ps2 ca2 cb2) => some (.ret, e, setLoop s1 s.next .exhausted (some .ret) nt2 e2 ps2 ca2 cb2)
          | some (.loop .done (some (.exit j)) nt2 e2 ps2 ca2 cb2) => some (.ex j, e, setLoop s1 s.next .exhausted (some (.exit j)) nt2 e2 ps2 ca2 cb2)
          | _ => none
        | none => none
      | _ => none
/-- one round of a loop over a function -/
def runR (cx : Cx) : Nat → Nat → List AV → St → Option (AV × St)
  | 0, _, _, _ => none
  | n + 1, id, vs, s => match s.heap.get id with
    | some (.loop .ready _ nt e ps ca cb) => match Nat.beq vs.length ps.length && (ps.all (fun p => Nat.blt p nt) && (noRng ca && noRng cb)) with
      | true => match runC cx n (cx.comp nt ca) (putAll e ps vs) s with
        | some (.norm, e1, s1) => match s1.heap.get id with
          | some (.loop .ready pend nt2 e2 ps2 ca2 cb2) => match runC cx n (cx.comp nt cb) e1 (setLoop s1 id .busy pend nt2 e2 ps2 ca2 cb2) with
            | some (x, _, s2) => match s2.heap.get id with
              | some (.loop _ _ nt3 e3 ps3 ca3 cb3) => match x with
                | .norm => some (.b true, setLoop s2 id .ready none nt3 e3 ps3 ca3 cb3)
                | .ret => some (.b false, setLoop s2 id .done (some .ret) nt3 e3 ps3 ca3 cb3)
                | .ex j => some (.b false, setLoop s2 id .done (some (.exit j)) nt3 e3 ps3 ca3 cb3)
              | _ => none
            | none => none
          | _ => none
        | _ => none
      | false => none
    | _ => none
def runO (cx : Cx) : Nat → KOp → Env → St → Option (AV × St)
  | 0, _, _, _ => none
  | n + 1, op, e, s => match op with
    | .call c args => match yielded? e c args with
      | some (id, vs) => runR cx n id vs s
      | none => match target cx e c args with
        | some (g, vs) => runF cx n g vs s
        | none => none
    | op => evOp e s op
def runOps (cx : Cx) : Nat → List KOper → Env → St → Option (Env × St)
  | 0, _, _, _ => none
  | n + 1, l, e, s => match l with
    | [] => some (e, s)
    | o :: r => match wanted e o.guard with
      | true => match runO cx n o.op e s with
        | some (v, s) => runOps cx n r (put e o.dst v) s
        | none => none
      | false => runOps cx n r (put e o.dst .u) s
/-- in the order of the text; what reads beside a write reads the same ahead of it and behind -/
def runDraw (cx : Cx) : Nat → List KOper → Env → St → List St → List Read → Option (Env × St)
  | 0, _, _, _, _, _ => none
  | n + 1, l, e, s, stages, reads => match l with
    | [] => match checkReads stages.reverse reads with
      | true => some (e, s)
      | false => none
    | o :: r => match wanted e o.guard with
      | true => match runO cx n o.op e s with
        | some (v, s) => runDraw cx n r (put e o.dst v) s (match isWr o with | true => s :: stages | false => stages)
            (match o.win with | some (a, b) => ⟨o.op, e, v, a, b⟩ :: reads | none => reads)
        | none => none
      | false => runDraw cx n r (put e o.dst .u) s (match isWr o with | true => s :: stages | false => stages) reads
def runF (cx : Cx) : Nat → Nat → List AV → St → Option (AV × St)
  | 0, _, _, _ => none
  | n + 1, g, vs, s => match cx.orc g with
    | some F => F vs s
    | none => match cx.funcs.get g with
      | none => none
      | some f => match Nat.ble vs.length f.nt with
        | false => none
        | true => match runC cx n f.body (Tr.ofList vs) s with
          | some (.ex _, _, _) => none
          | some (_, e, s) => match resultsV e s f.res with
            | some [v] => some (v, s)
            | some l => some (.tu l, s)
            | none => none
          | none => none
end

/-! making compact code -/
def mem (i : Nat) (l : List Nat) : Bool := l.any (· == i)
def memB (i m : Nat) : Bool := Nat.beq (Nat.land (Nat.shiftRight m i) 1) 1
section
variable (P : Program)
def cOper (ops : Array Oper) (nt : Nat) (o : Oper) : KOper :=
  { dst := o.dst,
    op := match (match o.dst with | some d => decide (d < nt) | none => true) with
      | true => (cOp P o).getD .bad
      | false => .bad,
    guard := o.guard.map fun (j, w) => ((ops[j]?).bind (·.dst), w) }
def KOper.tmps (k : KOper) : List Nat :=
  (k.op.kos.filterMap fun | .t n => some n | .c _ => none) ++ (match k.guard with | some (some t, _) => [t] | _ => [])
/-- what two operations that are not ordered may be: writes are ordered; what makes memory stands ahead of a later write; no temporary is touched by both and written by one -/
def pairOk1 (a b : KOper) : Bool :=
  !(isWr a && isWr b) && !(isMk a && isWr b) &&
  (match a.dst with | some d => !(mem d b.tmps) && !(match b.dst with | some d' => d == d' | none => false) | none => true) &&
  (match b.dst with | some d => !(mem d a.tmps) | none => true)
def pairOk (anc : List Nat) (ks : List KOper) : Bool :=
  (List.range ks.length).all fun j => (List.range j).all fun i => memB i ((anc[j]?).getD 0) ||
    (match ks[i]?, ks[j]? with | some a, some b => pairOk1 a b | _, _ => false)
/-- what must be ahead stands ahead -/
def edgesOk (ops : List Oper) : Bool := (List.range ops.length).all fun j => match ops[j]? with
  | some o => (predsOf o).all fun p => decide (p < j)
  | none => true
/-- how many writes stand surely ahead of an operation, and how many may -/
def winLo (anc : List Nat) (ks : List KOper) (j : Nat) : Nat :=
  ((List.range ks.length).filter fun i => (match ks[i]? with | some k => isWr k | none => false) && memB i ((anc[j]?).getD 0)).length
def winHi (anc : List Nat) (ks : List KOper) (j : Nat) : Nat :=
  ((List.range ks.length).filter fun i => (match ks[i]? with | some k => isWr k | none => false) && !(memB j ((anc[i]?).getD 0))).length
def withWin (anc : List Nat) (ks : List KOper) (j : Nat) (k : KOper) : KOper :=
  match k.op.cls with
  | 1 => { k with win := some (winLo anc ks j, winHi anc ks j) }
  | _ => k
def withWins (anc : List Nat) (ks : List KOper) : List KOper := ks.zipIdx.map fun (k, j) => withWin anc ks j k
def cDraw (nt : Nat) (ops : Array Oper) : KCode :=
  match pairOk (ancOf ops.toList) (ops.toList.map (cOper P ops nt)) && edgesOk ops.toList with
  | true => .region true (withWins (ancOf ops.toList) (ops.toList.map (cOper P ops nt)))
  | false => .bad
def cC (nt : Nat) : Code → KCode
  | .skip => .skip
  | .ret => .ret
  | .region _ ops false => .region false (ops.toList.map (cOper P ops nt))
  | .region _ ops true => cDraw P nt ops
  | .seq a b => .seq (cC nt a) (cC nt b)
  | .cond c a b => match cO c with
    | some x => .cond x (cC nt a) (cC nt b)
    | none => .bad
  | .block id c => .block id (cC nt c)
  | .loop c => .loop (cC nt c)
  | .exit id => .exit id
  | .rangeFunc g ps a c => match cO g, noRng a && noRng c with
    | some x, true => .rng x nt ps.toList a c
    | _, _ => .bad
  | _ => .bad
def cRes : List ResultVar → Option (List KRes)
  | [] => some []
  | .tmp t :: r => match cRes r with | some l => some (.t t :: l) | none => none
  | .cell a t :: r => match aggSize P t, cRes r with
    | some (some n), some l => some (.cn a n :: l)
    | some none, some l => some (.c1 a :: l)
    | _, _ => none
def cF (f : Func) : Option KFunc := match f.body, cRes P f.results.toList, f.name == "runtime.NumGoroutine" with
  | some c, some rs, false => some { nt := f.ntmps, res := rs, body := cC P f.ntmps c }
  | _, _, _ => none
def funcsFrom : List Func → Nat → Tr KFunc → Tr KFunc
  | [], _, t => t
  | f :: r, k, t => match cF P f with
    | some g => funcsFrom r (k + 1) (t.set k g)
    | none => funcsFrom r (k + 1) t
def allFuncs : Tr KFunc := funcsFrom P P.funcs.toList 0 .e
end
end Go.Av
