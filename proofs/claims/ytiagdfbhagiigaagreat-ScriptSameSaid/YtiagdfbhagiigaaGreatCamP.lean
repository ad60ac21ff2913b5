/- Cam, part P: the machine on names: frames, one step, a region that draws its order, runs. Definitions. -/
import Derived.Test.YtiagdfbhagiigaaGreatCamO
namespace Cam
open Go
variable {X : Type} {P : Program}

structure CPE where
  v : SV
  recovered : Bool

inductive CMode where
  | run
  | returning
  | panicking (chain : List CPE)

inductive CItem where
  | code (c : Code)
  | inBlock (id : Nat)
  | inLoop (body : Code)
  | inScope (body : Code)
  | inRegion (ops : Array Oper) (i : Nat) (rest : List Oper)
  | inRangeFunc (l : Nat)
  | endRangeFunc (l : Nat)
  | beginRound

structure CFr where
  fn : FuncId
  tm : Tm
  todo : List CItem
  defers : List CDef
  mode : CMode
  deferred : Bool
  roundOf : Option Nat
  dead : List Nat

structure CS (X : Type) where
  fr : CFr
  cs : List CFr
  h : CHeap X

inductive CEnd where
  | ret (v : SV)
  | panic (chain : List CPE)

/-- What calls come to that are known already. -/
abbrev Orc (X : Type) := FuncId → List SV → CHeap X → Option (CEnd × CHeap X)

inductive CR (X : Type) where
  | next (s : CS X)
  | done (e : CEnd) (h : CHeap X)
  | fail

def cev (t : Tm) : Operand → SV
  | .tmp i => t.get i
  | .const v => .sc v
  | .global g => .sc (.pointer (some ⟨g, 0, none⟩))
  | .func f => .fn (.func f) [] []

def cput (t : Tm) (dst : Option Tmp) (x : SV) : Tm := match dst with
  | some d => t.set d x
  | none => t

def unset : SV := .sc undef

def CFr.finish (fr : CFr) (v : SV) : CFr :=
  match fr with
  | ⟨fn, tm, todo, defers, mode, dfd, ro, dead⟩ => match todo with
    | .inRegion ops i (o :: rest) :: k => ⟨fn, cput tm o.dst v, .inRegion ops (i + 1) rest :: k, defers, mode, dfd, ro, dead⟩
    | .inRangeFunc l :: k => ⟨fn, tm, .endRangeFunc l :: k, defers, mode, dfd, ro, dead⟩
    | .beginRound :: k => ⟨fn, tm, k, defers, mode, dfd, ro, dead⟩
    | todo => ⟨fn, tm, todo, defers, mode, dfd, ro, dead⟩

def CFr.raise (fr : CFr) (vs : List CPE) : CFr :=
  match fr with
  | ⟨fn, tm, todo, defers, mode, dfd, ro, dead⟩ => match mode with
    | .panicking chain => ⟨fn, tm, todo, defers, .panicking (vs ++ chain), dfd, ro, dead⟩
    | _ => ⟨fn, tm, todo, defers, .panicking vs, dfd, ro, dead⟩

def CFr.mode' (fr : CFr) (m : CMode) : CFr :=
  match fr with
  | ⟨fn, tm, todo, defers, _, dfd, ro, dead⟩ => ⟨fn, tm, todo, defers, m, dfd, ro, dead⟩

def cexitTo (id : Nat) : List CItem → Option (List CItem)
  | [] => none
  | .inBlock id' :: k => if id' == id then some k else cexitTo id k
  | .code _ :: k => cexitTo id k
  | .inLoop _ :: k => cexitTo id k
  | .inScope _ :: k => cexitTo id k
  | .inRegion .. :: k => cexitTo id k
  | .inRangeFunc _ :: k => cexitTo id k
  | .endRangeFunc _ :: k => cexitTo id k
  | .beginRound :: k => cexitTo id k

def cgotoIn (l : Nat) : List CItem → Option (List CItem)
  | [] => none
  | .inScope body :: k => (match findLabel body l with
    | some rest => some (.code rest :: .inScope body :: k)
    | none => cgotoIn l k)
  | .code _ :: k => cgotoIn l k
  | .inLoop _ :: k => cgotoIn l k
  | .inBlock _ :: k => cgotoIn l k
  | .inRegion .. :: k => cgotoIn l k
  | .inRangeFunc _ :: k => cgotoIn l k
  | .endRangeFunc _ :: k => cgotoIn l k
  | .beginRound :: k => cgotoIn l k

/-- Is the operation wanted? -/
def cwanted (ops : Array Oper) (t : Tm) (o : Oper) : Option Bool :=
  match o.guard with
  | none => some true
  | some (j, want) => (match (ops[j]?).bind (·.dst) with
    | some d => (match svBool (t.get d) with
      | some b => some (b == want)
      | none => none)
    | none => none)

/-! ### A region that draws its order -/
def veqb : Value → Value → Bool
  | .int k a, .int k' b => k == k' && a == b
  | .bool a, .bool b => a == b
  | .string a, .string b => decide (a = b)
  | .pointer none, .pointer none => true
  | .nilIface, .nilIface => true
  | .nilFunc, .nilFunc => true
  | .slice none 0 0, .slice none 0 0 => true
  | .map none, .map none => true
  | _, _ => false

mutual
def SV.eqb : SV → SV → Bool
  | .sc v, .sc u => veqb v u
  | .ptr n o, .ptr m p => Nat.beq n m && Nat.beq o p
  | .sl n o l e c x, .sl n' o' l' e' c' x' => Nat.beq n n' && Nat.beq o o' && Nat.beq l l' && Nat.beq e e' && Nat.beq c c' && x == x'
  | .esl n e, .esl n' e' => Nat.beq n n' && Nat.beq e e'
  | .mp n, .mp m => Nat.beq n m
  | .yld n, .yld m => Nat.beq n m
  | .ifc t x, .ifc u y => Nat.beq t u && SV.eqb x y
  | .agg l, .agg m => SV.eqbL l m
  | .tup l, .tup m => SV.eqbL l m
  | _, _ => false
def SV.eqbL : List SV → List SV → Bool
  | [], [] => true
  | x :: l, y :: m => SV.eqb x y && SV.eqbL l m
  | _, _ => false
end

mutual
/-- Every name in it is below k. -/
def SV.under (k : Nat) : SV → Bool
  | .sc _ => true
  | .ptr n _ => Nat.blt n k
  | .sl n .. => Nat.blt n k
  | .esl n _ => Nat.blt n k
  | .mp n => Nat.blt n k
  | .yld n => Nat.blt n k
  | .fn _ a c => SV.underL k a && SV.underL k c
  | .ifc _ x => SV.under k x
  | .agg l => SV.underL k l
  | .tup l => SV.underL k l
def SV.underL (k : Nat) : List SV → Bool
  | [] => true
  | x :: l => SV.under k x && SV.underL k l
end

/-- The operations of a region, each with the mask of those that come before it in every order; 'none' where the region is beyond us. -/
def maskOf (ms : Tr Nat) (i : Nat) : List Edge → Nat → Option Nat
  | [], s => some s
  | e :: l, s => match Region.binds .any e with
    | true => (match Nat.blt e.on i, ms.get e.on with
      | true, some m => maskOf ms i l (s ||| 2 ^ e.on ||| m)
      | _, _ => none)
    | false => maskOf ms i l s

/-- Temporaries that are looked at, out of operations that write them. -/
def looks (ops : Array Oper) (o : Oper) : List Tmp := o.looksAt ops

def looksOk (wr : Tr Nat) (i mask : Nat) : List Tmp → Bool
  | [] => true
  | t :: l => (match wr.get t with
    | some j => (match Nat.blt j i with
      | true => mask.testBit j
      | false => true)
    | none => true) && looksOk wr i mask l

/-- Those that have looked at it come before, in every order. -/
def readersOk (d mask : Nat) : List (Nat × List Tmp) → Bool
  | [] => true
  | (i, ls) :: l => (match ls.contains d with
    | true => mask.testBit i
    | false => true) && readersOk d mask l

def writers : Nat → List Oper → Tr Nat → Option (Tr Nat)
  | _, [], t => some t
  | i, o :: l, t => match o.dst with
    | none => writers (i + 1) l t
    | some d => (match t.get d with
      | some _ => none
      | none => writers (i + 1) l (t.set d (some i)))

def annotGo (ops : Array Oper) (wr : Tr Nat) : Nat → List Oper → Tr Nat → List (Nat × List Tmp) → Option (List (Oper × Nat))
  | _, [], _, _ => some []
  | i, o :: l, ms, prev => match maskOf ms i o.after.toList 0 with
    | none => none
    | some m => (match looksOk wr i m (looks ops o) && (match o.dst with
        | some d => readersOk d m prev
        | none => true) with
      | false => none
      | true => (match annotGo ops wr (i + 1) l (ms.set i (some m)) ((i, looks ops o) :: prev) with
        | none => none
        | some r => some ((o, m) :: r)))

def annot (ops : Array Oper) : Option (List (Oper × Nat)) :=
  match writers 0 ops.toList .nil with
  | none => none
  | some wr => annotGo ops wr 0 ops.toList .nil []

/-- Free of memory and of effects, it may be; only reading; or neither. -/
inductive OpKind where
  | free | read | eff

def kindOf : Op → OpKind
  | .load .. => .read
  | .lookup .. => .read
  | .entry _ => .read
  | .slice .. => .read
  | .store .. => .eff
  | .mapUpdate .. => .eff
  | .insert .. => .eff
  | .mapEntry .. => .eff
  | .entryStore .. => .eff
  | .range .. => .eff
  | .next .. => .eff
  | .convert .. => .free
  | .call c => (match c.callee with
    | .builtin .len => .read
    | .builtin .cap => .read
    | .builtin .min => .free
    | .builtin .max => .free
    | _ => .eff)
  | .defer _ => .eff
  | .panic _ => .eff
  | .binOp .. => .free
  | _ => .free

structure Stage (X : Type) where
  tr : Tr (Chunk X)
  merged : Nat
  done : Nat
  nx : Nat

structure FreeOp (X : Type) where
  i : Nat
  tr : Tr (Chunk X)
  lo : Nat
  hi : Nat

structure ReadOp where
  i : Nat
  mask : Nat
  o : Oper
  tm : Tm
  v : SV

def addChunks (t a : Tr (Chunk X)) : Nat → Nat → Tr (Chunk X)
  | _, 0 => t
  | lo, k + 1 => addChunks (match a.get lo with
    | some c => t.set lo (some c)
    | none => t) a (lo + 1) k

/-- A stage's memory with what the operations of the mask have made that it has not taken up. -/
def stageHeap (st : Stage X) (mask : Nat) : List (FreeOp X) → Tr (Chunk X)
  | [] => (match st with | ⟨tr, _, _, _⟩ => tr)
  | ⟨i, t, lo, hi⟩ :: l => match (match st with | ⟨_, merged, _, _⟩ => mask.testBit i && !merged.testBit i) with
    | true => addChunks (stageHeap st mask l) t lo (hi - lo)
    | false => stageHeap st mask l

structure DS (X : Type) where
  i : Nat
  tm : Tm
  nx : Nat
  st : Stage X
  old : List (Stage X × Nat)
  frees : List (FreeOp X)
  reads : List ReadOp
  last : Option Nat
  stop : Option (List CPE)

def readAt (cfg : Cfg P) (st : Stage X) (frees : List (FreeOp X)) (nx mask : Nat) (tm : Tm) (o : Oper) : Option SV :=
  match cop cfg { tr := stageHeap st mask frees, next := nx } (cev tm) o with
  | some (.value v _) => some v
  | _ => none

/-- The older stages at which a read may come up. -/
def readOld (cfg : Cfg P) (frees : List (FreeOp X)) (nx mask : Nat) (tm : Tm) (o : Oper) (v : SV) : List (Stage X × Nat) → Bool
  | [] => true
  | (st, e) :: l => match mask.testBit e with
    | true => true
    | false => (match readAt cfg st frees nx mask tm o with
      | some u => u.eqb v && readOld cfg frees nx mask tm o v l
      | none => false)

/-- Reads that may come up behind an effect. -/
def readNew (cfg : Cfg P) (st : Stage X) (frees : List (FreeOp X)) (nx mask : Nat) : List ReadOp → Bool
  | [] => true
  | ⟨i, m, o, tm, v⟩ :: l => (match mask.testBit i with
    | true => true
    | false => (match readAt cfg st frees nx m tm o with
      | some u => u.eqb v
      | none => false)) && readNew cfg st frees nx mask l

def maskFrees (mask : Nat) : List (FreeOp X) → Nat
  | [] => 0
  | ⟨i, _, _, _⟩ :: l => match mask.testBit i with
    | true => 2 ^ i ||| maskFrees mask l
    | false => maskFrees mask l

def effOut (orc : Orc X) (h : CHeap X) : Option (CNext X) → Option (Sum SV (List CPE) × CHeap X)
  | some (.value v h') => some (.inl v, h')
  | some (.skip h') => some (.inl unset, h')
  | some (.enter f args) => (match orc f args h with
    | some (.ret v, h') => some (.inl v, h')
    | some (.panic c, h') => some (.inr c, h')
    | none => none)
  | some (.panic v) => some (.inr [{ v, recovered := false }], h)
  | _ => none

def dstep (cfg : Cfg P) (orc : Orc X) (ops : Array Oper) (s : DS X) (o : Oper) (mask : Nat) : Option (DS X) :=
  match s with
  | ⟨i, tm, nx, st, old, frees, reads, last, stop⟩ =>
    match stop, last with
    | some c, some e => (match mask.testBit e with
      | true => some ⟨i + 1, tm, nx, st, old, frees, reads, some e, some c⟩
      | false => none)
    | some _, none => none
    | none, _ =>
      match cwanted ops tm o with
      | none => none
      | some false => some ⟨i + 1, cput tm o.dst unset, nx, st, old, frees, reads, last, none⟩
      | some true =>
        match kindOf o.op with
        | .free => (match cop cfg ⟨.nil, nx⟩ (cev tm) o with
          | some (.value v ⟨t, nx'⟩) => (match Nat.ble nx nx' with
            | true => some ⟨i + 1, cput tm o.dst v, nx', st, old, ⟨i, t, nx, nx'⟩ :: frees, reads, last, none⟩
            | false => none)
          | _ => none)
        | .read => (match readAt cfg st frees nx mask tm o with
          | some v => (match v.under nx && readOld cfg frees nx mask tm o v old with
            | true => some ⟨i + 1, cput tm o.dst v, nx, st, old, frees, ⟨i, mask, o, tm, v⟩ :: reads, last, none⟩
            | false => none)
          | none => none)
        | .eff => (match (match last with
            | some e => mask.testBit e
            | none => true) with
          | false => none
          | true => match st with
            | ⟨tr, merged, done, snx⟩ =>
              match effOut orc ⟨stageHeap ⟨tr, merged, done, snx⟩ mask frees, nx⟩ (cop cfg ⟨stageHeap ⟨tr, merged, done, snx⟩ mask frees, nx⟩ (cev tm) o) with
              | some (.inl v, ⟨tr', nx'⟩) =>
                (match Nat.ble nx nx' && readNew cfg ⟨tr', merged ||| maskFrees mask frees, done ||| 2 ^ i, nx'⟩ frees nx' mask reads with
                | true => some ⟨i + 1, cput tm o.dst v, nx', ⟨tr', merged ||| maskFrees mask frees, done ||| 2 ^ i, nx'⟩, (⟨tr, merged, done, snx⟩, i) :: old, frees, reads, some i, none⟩
                | false => none)
              | some (.inr c, ⟨tr', nx'⟩) => (match Nat.ble nx nx' with
                | true => some ⟨i + 1, tm, nx', ⟨tr', merged ||| maskFrees mask frees, done ||| 2 ^ i, nx'⟩, (⟨tr, merged, done, snx⟩, i) :: old, frees, reads, some i, some c⟩
                | false => none)
              | none => none)

def dsteps (cfg : Cfg P) (orc : Orc X) (ops : Array Oper) : List (Oper × Nat) → DS X → Option (DS X)
  | [], s => some s
  | (o, m) :: l, s => match dstep cfg orc ops s o m with
    | some s' => dsteps cfg orc ops l s'
    | none => none

def dsts : List Oper → List Nat
  | [] => []
  | o :: l => match o.dst with
    | some d => d :: dsts l
    | none => dsts l

/-- Every mask. -/
def allMask (n : Nat) : Nat := 2 ^ n - 1

def cdrawn (cfg : Cfg P) (orc : Orc X) (ops : Array Oper) (tm : Tm) (h : CHeap X) : Option (Sum Tm (List CPE) × CHeap X) :=
  match annot ops with
  | none => none
  | some l => match h with
    | ⟨tr, nx⟩ => match dsteps cfg orc ops l ⟨0, tm, nx, ⟨tr, 0, 0, nx⟩, [], [], [], none, none⟩ with
      | none => none
      | some ⟨i, tm', nx', st, _, frees, _, _, stop⟩ => match stop with
        | some c => (match st with | ⟨tr', _, _, _⟩ => some (.inr c, ⟨tr', nx'⟩))
        | none => some (.inl tm', ⟨stageHeap st (allMask i) frees, nx'⟩)

/-! ### One step -/
def center (c : CFn) (f : FuncId) (args : List SV) (deferred : Bool) : CFr :=
  match c with
  | ⟨body, ntmps, _⟩ => ⟨f, Tm.enter args ntmps, [.code body], [], .run, deferred, none, []⟩

/-- Back to the caller. -/
def creturn (deferred : Bool) (cs : List CFr) (h : CHeap X) (v : SV) : CR X :=
  match cs with
  | [] => .fail
  | caller :: rest => match deferred with
    | false => (match caller with
      | ⟨fn, tm, todo, defers, mode, dfd, ro, dead⟩ => match mode, dead with
        | .run, [] => .next ⟨CFr.finish ⟨fn, tm, todo, defers, .run, dfd, ro, []⟩ v, rest, h⟩
        | _, _ => .fail)
    | true => (match caller with
      | ⟨fn, tm, todo, defers, mode, dfd, ro, dead⟩ => match mode with
        | .panicking (⟨_, r⟩ :: _) => (match r with
          | true => .next ⟨⟨fn, tm, todo, defers, .returning, dfd, ro, dead⟩, rest, h⟩
          | false => .next ⟨caller, rest, h⟩)
        | _ => .next ⟨caller, rest, h⟩)

def cleave (fr : CFr) (cs : List CFr) (h : CHeap X) (jump : Option Code) : CR X :=
  match fr with
  | ⟨fn, tm, todo, defers, _, dfd, ro, dead⟩ => match ro with
    | none => (match jump with
      | none => .next ⟨⟨fn, tm, todo, defers, .returning, dfd, none, dead⟩, cs, h⟩
      | some .ret => .next ⟨⟨fn, tm, todo, defers, .returning, dfd, none, dead⟩, cs, h⟩
      | _ => .fail)
    | some l => (match dfd, h.get l with
      | false, some (.loop _ _ lfn tmps params assign body dn) => (match jump with
        | none => creturn false cs (h.set l (.loop .ready none lfn tmps params assign body dn)) (.sc (.bool true))
        | some j => creturn false cs (h.set l (.loop .done (some j) lfn tmps params assign body dn)) (.sc (.bool false)))
      | _, _ => .fail)

def cresults (cfg : Cfg P) (tm : Tm) (dead : List Nat) (h : CHeap X) : List ResultVar → Option (List SV)
  | [] => some []
  | .tmp t :: l => (match dead.contains t with
    | true => none
    | false => (match cresults cfg tm dead h l with
      | some r => some (tm.get t :: r)
      | none => none))
  | .cell a t :: l => (match dead.contains a with
    | true => none
    | false => (match vload cfg h t (tm.get a) with
      | some v => (match cresults cfg tm dead h l with
        | some r => some (v :: r)
        | none => none)
      | none => none))

def cresult (l : List SV) : SV := match l with
  | [v] => v
  | l => .tup l

def cunwind (cfg : Cfg P) (f0 : FuncId) (fr : CFr) (cs : List CFr) (h : CHeap X) : CR X :=
  match fr with
  | ⟨fn, tm, todo, defers, mode, dfd, ro, dead⟩ => match defers with
    | .mark n :: ds => (match h.get n with
      | some (.deferred true) => .next ⟨⟨fn, tm, todo, ds, mode, dfd, ro, dead⟩, cs, h.set n (.deferred false)⟩
      | _ => .fail)
    | .call g cap args :: ds => (match cinvoke cfg h g cap args with
      | some (.enter f args') => (match cfg.C f with
        | some c => .next ⟨center c f args' true, ⟨fn, tm, todo, ds, mode, dfd, ro, dead⟩ :: cs, h⟩
        | none => .fail)
      | _ => .fail)
    | [] => (match cfg.C fn with
      | none => .fail
      | some ⟨_, _, results⟩ => (match mode with
        | .run => .fail
        | .panicking chain => (match cs with
          | caller :: rest => .next ⟨caller.raise chain, rest, h⟩
          | [] => (match Nat.beq fn f0 with
            | true => .done (.panic chain) h
            | false => .fail))
        | .returning => (match cresults cfg tm dead h results.toList with
          | none => .fail
          | some l => (match cs with
            | [] => (match Nat.beq fn f0 && !dfd with
              | true => .done (.ret (cresult l)) h
              | false => .fail)
            | _ :: _ => creturn dfd cs h (cresult l)))))

def setParams : List Tmp → List SV → Tm → Option Tm
  | [], [], t => some t
  | p :: ps, x :: xs, t => setParams ps xs (t.set p x)
  | _, _, _ => none

def ctryRecover (dfd : Bool) (cs : List CFr) : Option (Option (SV × List CFr)) :=
  match dfd, cs with
  | true, ⟨fn, tm, todo, defers, mode, dfd', ro, dead⟩ :: rest => (match mode with
    | .panicking (⟨v, r⟩ :: older) => (match r with
      | false => some (some (v, ⟨fn, tm, todo, defers, .panicking (⟨v, true⟩ :: older), dfd', ro, dead⟩ :: rest))
      | true => some none)
    | _ => some none)
  | true, [] => none
  | false, _ => some none

def capply (cfg : Cfg P) (sum : Orc X) (fr : CFr) (cs : List CFr) (h : CHeap X) : Option (CNext X) → CR X
  | some (.value v h') => .next ⟨fr.finish v, cs, h'⟩
  | some (.skip h') => .next ⟨fr.finish unset, cs, h'⟩
  | some (.enter f args) => (match sum f args h with
    | some (.ret v, h') => .next ⟨fr.finish v, cs, h'⟩
    | some (.panic c, h') => .next ⟨fr.raise c, cs, h'⟩
    | none => (match cfg.C f with
      | some c => .next ⟨center c f args false, fr :: cs, h⟩
      | none => .fail))
  | some (.round l args) => (match h.get l with
    | some (.loop _ _ fn tmps params assign body _) => (match setParams params.toList args tmps with
      | some tm => .next ⟨⟨fn, tm, [.code assign, .beginRound, .code body], [], .run, false, some l, []⟩, fr :: cs, h⟩
      | none => .fail)
    | _ => .fail)
  | some (.defer d) => (match fr with
    | ⟨fn, tm, todo, defers, mode, dfd, ro, dead⟩ => match ro with
      | none => .next ⟨CFr.finish ⟨fn, tm, todo, d :: defers, mode, dfd, none, dead⟩ unset, cs, h⟩
      | some _ => .fail)
  | some .recover => (match fr with
    | ⟨fn, tm, todo, defers, mode, dfd, ro, dead⟩ => match ro with
      | none => (match ctryRecover dfd cs with
        | some (some (v, cs')) => .next ⟨CFr.finish ⟨fn, tm, todo, defers, mode, dfd, none, dead⟩ v, cs', h⟩
        | some none => .next ⟨CFr.finish ⟨fn, tm, todo, defers, mode, dfd, none, dead⟩ (.sc .nilIface), cs, h⟩
        | none => .fail)
      | some _ => .fail)
  | some (.panic v) => .next ⟨fr.raise [⟨v, false⟩], cs, h⟩
  | none => .fail

def crun1 (cfg : Cfg P) (sum orc : Orc X) (fn : FuncId) (tm : Tm) (todo : List CItem) (defers : List CDef) (dfd : Bool) (ro : Option Nat) (cs : List CFr) (h : CHeap X) : CR X :=
  match todo with
  | [] => cleave ⟨fn, tm, [], defers, .run, dfd, ro, []⟩ cs h none
  | .code c :: k => (match c with
    | .ret => cleave ⟨fn, tm, k, defers, .run, dfd, ro, []⟩ cs h (some .ret)
    | .skip => .next ⟨⟨fn, tm, k, defers, .run, dfd, ro, []⟩, cs, h⟩
    | .label _ => .next ⟨⟨fn, tm, k, defers, .run, dfd, ro, []⟩, cs, h⟩
    | .seq a b => .next ⟨⟨fn, tm, .code a :: .code b :: k, defers, .run, dfd, ro, []⟩, cs, h⟩
    | .cond c a b => (match svBool (cev tm c) with
      | some true => .next ⟨⟨fn, tm, .code a :: k, defers, .run, dfd, ro, []⟩, cs, h⟩
      | some false => .next ⟨⟨fn, tm, .code b :: k, defers, .run, dfd, ro, []⟩, cs, h⟩
      | none => .fail)
    | .block id body => .next ⟨⟨fn, tm, .code body :: .inBlock id :: k, defers, .run, dfd, ro, []⟩, cs, h⟩
    | .loop body => .next ⟨⟨fn, tm, .code body :: .inLoop body :: k, defers, .run, dfd, ro, []⟩, cs, h⟩
    | .scope body => .next ⟨⟨fn, tm, .code body :: .inScope body :: k, defers, .run, dfd, ro, []⟩, cs, h⟩
    | .exit id => (match cexitTo id k with
      | some k' => .next ⟨⟨fn, tm, k', defers, .run, dfd, ro, []⟩, cs, h⟩
      | none => cleave ⟨fn, tm, k, defers, .run, dfd, ro, []⟩ cs h (some (.exit id)))
    | .goto l => (match cgotoIn l k with
      | some k' => .next ⟨⟨fn, tm, k', defers, .run, dfd, ro, []⟩, cs, h⟩
      | none => cleave ⟨fn, tm, k, defers, .run, dfd, ro, []⟩ cs h (some (.goto l)))
    | .region _ ops draw => (match draw with
      | false => .next ⟨⟨fn, tm, .inRegion ops 0 ops.toList :: k, defers, .run, dfd, ro, []⟩, cs, h⟩
      | true => (match cdrawn cfg orc ops tm h with
        | some (.inl tm', h') => .next ⟨⟨fn, tm', k, defers, .run, dfd, ro, []⟩, cs, h'⟩
        | some (.inr c, h') => .next ⟨⟨fn, tm, k, defers, .panicking c, dfd, ro, dsts ops.toList⟩, cs, h'⟩
        | none => .fail))
    | .rangeFunc f params assign body =>
      match (match ro with
        | none => (match h with
          | ⟨t, nx⟩ => some (nx, CHeap.push ⟨t, nx⟩ (.deferred true), CDef.mark nx :: defers))
        | some l0 => (match h.get l0 with
          | some (.loop _ _ _ _ _ _ _ dn) => some (dn, h, defers)
          | _ => none)) with
      | none => .fail
      | some (dn, ⟨t1, n1⟩, defers') =>
        (match (cev tm f).fn? with
        | some (g, first, cap) => (match cinvoke cfg (CHeap.push ⟨t1, n1⟩ (.loop .ready none fn tm params assign body dn)) g cap (first ++ [.yld n1]) with
          | some (.enter g' args) => (match cfg.C g' with
            | some c => .next ⟨center c g' args false, ⟨fn, tm, .inRangeFunc n1 :: k, defers', .run, dfd, ro, []⟩ :: cs, CHeap.push ⟨t1, n1⟩ (.loop .ready none fn tm params assign body dn)⟩
            | none => .fail)
          | _ => .fail)
        | none => .fail)
    | .refuse _ => .fail)
  | .inBlock _ :: k => .next ⟨⟨fn, tm, k, defers, .run, dfd, ro, []⟩, cs, h⟩
  | .inScope _ :: k => .next ⟨⟨fn, tm, k, defers, .run, dfd, ro, []⟩, cs, h⟩
  | .inLoop body :: k => .next ⟨⟨fn, tm, .code body :: .inLoop body :: k, defers, .run, dfd, ro, []⟩, cs, h⟩
  | .inRegion ops i rest :: k => (match rest with
    | [] => .next ⟨⟨fn, tm, k, defers, .run, dfd, ro, []⟩, cs, h⟩
    | o :: rest' => (match cwanted ops tm o with
      | some true => capply cfg sum ⟨fn, tm, .inRegion ops i (o :: rest') :: k, defers, .run, dfd, ro, []⟩ cs h (cop cfg h (cev tm) o)
      | some false => .next ⟨⟨fn, cput tm o.dst unset, .inRegion ops (i + 1) rest' :: k, defers, .run, dfd, ro, []⟩, cs, h⟩
      | none => .fail))
  | .beginRound :: k => (match ro with
    | some l => (match h.get l with
      | some (.loop .ready p lfn tmps params assign body dn) => .next ⟨⟨fn, tm, k, defers, .run, dfd, some l, []⟩, cs, h.set l (.loop .busy p lfn tmps params assign body dn)⟩
      | _ => .fail)
    | none => .fail)
  | .endRangeFunc l :: k => (match h.get l with
    | some (.loop .busy ..) => .fail
    | some (.loop _ p lfn tmps params assign body dn) => (match p with
      | some c => .next ⟨⟨fn, tm, .code c :: k, defers, .run, dfd, ro, []⟩, cs, h.set l (.loop .exhausted (some c) lfn tmps params assign body dn)⟩
      | none => .next ⟨⟨fn, tm, k, defers, .run, dfd, ro, []⟩, cs, h.set l (.loop .exhausted none lfn tmps params assign body dn)⟩)
    | _ => .fail)
  | .inRangeFunc _ :: _ => .fail

def cstep (cfg : Cfg P) (sum orc : Orc X) (f0 : FuncId) (s : CS X) : CR X :=
  match s with
  | ⟨⟨fn, tm, todo, defers, mode, dfd, ro, dead⟩, cs, h⟩ => match mode with
    | .run => (match dead with
      | [] => crun1 cfg sum orc fn tm todo defers dfd ro cs h
      | _ :: _ => .fail)
    | _ => cunwind cfg f0 ⟨fn, tm, todo, defers, mode, dfd, ro, dead⟩ cs h

/-- A run, so many steps at most. -/
def crun (cfg : Cfg P) (sum orc : Orc X) (f0 : FuncId) (k : Nat) : CS X → Option (CEnd × CHeap X) :=
  Nat.rec (fun _ => none) (fun _ ih s => match cstep cfg sum orc f0 s with
    | .next s' => ih s'
    | .done e h => some (e, h)
    | .fail => none) k

/-- A call: what is known of it, or a run. 'd': how deep calls may lie in regions that draw their order. -/
def ccallRun (cfg : Cfg P) (sum : Orc X) (steps : Nat) (d : Nat) : Orc X :=
  Nat.rec sum (fun _ ih f args h => match sum f args h with
    | some r => some r
    | none => (match cfg.C f with
      | some c => crun cfg sum ih f steps ⟨center c f args false, [], h⟩
      | none => none)) d
end Cam
