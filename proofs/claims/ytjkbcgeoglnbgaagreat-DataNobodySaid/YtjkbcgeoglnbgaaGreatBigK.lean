/-
  The code without what a run does not look at; its abstract run. A region that draws its order is run in the order of its text; what it reads is asked for again at each place to which the reading could be put off or brought forward.
-/
import Derived.Test.YtjkbcgeoglnbgaaGreatBigJ
set_option linter.unusedVariables false
set_option linter.unusedSimpArgs false
namespace Go.Big

structure SOp where
  dst : Option Tmp
  op : Op
  guard : Option (Tmp × Bool)

/-- An operation of a region that draws its order. 'at_': where else in the region what it reads is asked for (ahead of which operations; the region's length: at the end). -/
structure DOp where
  o : SOp
  nw : Bool
  at_ : List Nat

inductive SCode where
  | skip
  | reg (ops : List SOp)
  | draw (ops : List DOp)
  | seq (a b : SCode)
  | cond (c : Operand) (x y : SCode)
  | block (id : Nat) (c : SCode)
  | loop (c : SCode)
  | exit (id : Nat)
  | ret
  | range (f : Operand) (params : List Tmp) (assign body : SCode)

inductive AX where
  | normal
  | exit (id : Nat)
  | ret

def flatO : Operand → Bool
  | .const v => flatC v
  | _ => true

def stripOp (ops : Array Oper) (o : Oper) : Option SOp :=
  if o.op.operands.toList.all flatO = true then
    match o.guard with
    | none => some ⟨o.dst, o.op, none⟩
    | some (j, want) =>
      match (ops[j]?).bind (·.dst) with
      | some t => some ⟨o.dst, o.op, some (t, want)⟩
      | none => none
  else none

def wantedE (env : Env) : Option (Tmp × Bool) → Bool
  | none => true
  | some (t, want) =>
    match env.get t with
    | .bool b => b == want
    | _ => false

/-- The slot that a guard asks is known. -/
def guardKnown (env : Env) : Option (Tmp × Bool) → Bool
  | none => true
  | some (t, _) =>
    match env.get t with
    | .bool _ | .tuple _ => true
    | _ => false

/-- A loop over a function that is under way: the frame's slots, and what a round does. -/
structure LoopA where
  env : Env
  params : List Tmp
  assign : SCode
  body : SCode

/-- The loops whose rounds may begin. -/
abbrev Gam := List (Nat × LoopA)

/-- Calls of functions, and rounds of loops: the value, and the heap behind it. -/
structure ACalls where
  fn : Gam → FuncId → List Value → AHeap → Option (Value × AHeap)
  yl : Gam → Nat → List Value → AHeap → Option (Value × AHeap)

def stepOp (X : XT) (P : Program) (call : ACalls) (Γ : Gam) (o : SOp) (env : Env) (H : AHeap) : Option (Env × AHeap) :=
  if guardKnown env o.guard = false then none
  else if wantedE env o.guard = true then
    match aop X P (evalO env) H o.op with
    | some (.val v, H') => some (putO env o.dst v, H')
    | some (.enter f args, H') =>
      match call.fn Γ f args H' with
      | some (v, H'') => some (putO env o.dst v, H'')
      | none => none
    | some (.yield b args, H') =>
      match call.yl Γ b args H' with
      | some (v, H'') => some (putO env o.dst v, H'')
      | none => none
    | none => none
  else some (putO env o.dst undef, H)

def execOps (X : XT) (P : Program) (call : ACalls) (Γ : Gam) : List SOp → Env → AHeap → Option (Env × AHeap)
  | [], env, H => some (env, H)
  | o :: r, env, H =>
    match stepOp X P call Γ o env H with
    | some (env', H') => execOps X P call Γ r env' H'
    | none => none

inductive Kind where
  | eff | new | rd | pure
  deriving DecidableEq

def kindOf (P : Program) : Op → Kind
  | .call { callee := .builtin .append, .. } | .call { callee := .builtin .copy, .. } | .call { callee := .builtin .clear, .. } => .eff
  | .call { callee := .builtin _, .. } => .pure
  | .call _ => .eff
  | .store .. => .eff
  | .alloc _ | .box .. | .buildSlice .. | .makeSlice .. => .new
  | .convert _ d _ =>
    match P.underlying d with
    | some (.slice _) => .new
    | _ => .rd
  | .load .. | .slice .. => .rd
  | _ => .pure

def isEff (k : Kind) : Bool := match k with | .eff => true | _ => false
def isRd (k : Kind) : Bool := match k with | .rd => true | _ => false
def isNew (k : Kind) : Bool := match k with | .new => true | _ => false

/-- The slots that an operation names. -/
def named (o : SOp) : List Tmp :=
  o.dst.toList ++ (o.op.operands.toList.filterMap fun | .tmp t => some t | _ => none) ++ (match o.guard with | some (t, _) => [t] | none => [])

/-- Ahead of an operation stand, in every order, those whose bits are set. -/
def maskOf (acc : List Nat) (es : List Edge) : Nat := es.foldl (fun m e => if Region.binds .any e = true then m ||| (acc.getD e.on 0 ||| 2 ^ e.on) else m) 0
def befsGo : List Nat → List Oper → List Nat
  | acc, [] => acc
  | acc, o :: r => befsGo (acc ++ [maskOf acc o.after.toList]) r
def befs (ops : Array Oper) : List Nat := befsGo [] ops.toList

def hasBit (bs : List Nat) (i j : Nat) : Bool := (bs.getD i 0).testBit j

def edgesBack (ops : Array Oper) : Bool := (List.range ops.size).all fun i => (ops.getD i default).after.toList.all fun e => !Region.binds .any e || decide (e.on < i)

/-- Two operations that name one slot, which one of them writes, stand in one order. -/
def slotsOK (so : List SOp) (bs : List Nat) : Bool :=
  (List.range so.length).all fun k => (List.range so.length).all fun j =>
    j == k || match so[k]?, so[j]? with
      | some a, some b =>
        match b.dst with
        | some t => !(named a).contains t || hasBit bs (max j k) (min j k)
        | none => true
      | _, _ => true

def effsOf (P : Program) (so : List SOp) : List Nat := (List.range so.length).filter fun k => match so[k]? with | some o => isEff (kindOf P o.op) | none => false

def effsOK (es : List Nat) (bs : List Nat) : Bool := es.all fun j => es.all fun i => !decide (i < j) || hasBit bs j i

/-- Where what an operation reads may be read: ahead of which effect (the region's length: behind them all). -/
def placesOf (es : List Nat) (bs : List Nat) (n k : Nat) : List Nat :=
  (es ++ [n]).filter fun p => (es.all fun e => !hasBit bs k e || decide (e < p)) && (es.all fun e => !hasBit bs e k || decide (p ≤ e))

def stripDraw (P : Program) (ops : Array Oper) : Option (List DOp) :=
  match ops.toList.mapM (stripOp ops) with
  | none => none
  | some so =>
    let bs := befs ops
    let es := effsOf P so
    if edgesBack ops && slotsOK so bs && effsOK es bs && Region.noSelect ops then
      some (so.zipIdx.map fun (o, k) => ⟨o, isNew (kindOf P o.op), if isRd (kindOf P o.op) then placesOf es bs so.length k else []⟩)
    else none

def strip (P : Program) : Code → Option SCode
  | .skip => some .skip
  | .region _ ops false => (ops.toList.mapM (stripOp ops)).map .reg
  | .region _ ops true => (stripDraw P ops).map .draw
  | .seq a b =>
    match strip P a, strip P b with
    | some x, some y => some (.seq x y)
    | _, _ => none
  | .cond c a b =>
    match strip P a, strip P b with
    | some x, some y => if flatO c then some (.cond c x y) else none
    | _, _ => none
  | .block id c => (strip P c).map (.block id)
  | .loop c => (strip P c).map .loop
  | .exit id => some (.exit id)
  | .ret => some .ret
  | .label _ => some .skip
  | .scope c => strip P c
  | .rangeFunc f ps a b =>
    match strip P a, strip P b with
    | some x, some y => if flatO f then some (.range f ps.toList x y) else none
    | _, _ => none
  | _ => none

/-- Surely the same value. -/
def sameL (f : Value → Value → Bool) : List Value → List Value → Bool
  | [], [] => true
  | a :: x, b :: y => f a b && sameL f x y
  | _, _ => false
def sameV : Nat → Value → Value → Bool
  | 0, _, _ => false
  | n + 1, x, y =>
    match x, y with
    | .bool a, .bool b => a == b
    | .int k a, .int k' b => decide (k = k') && decide (a = b)
    | .float k a, .float k' b => decide (k = k') && decide (a = b)
    | .string a, .string b => decide (a = b)
    | .pointer a, .pointer b => decide (a = b)
    | .slice a l c, .slice b l' c' => decide (a = b) && decide (l = l') && decide (c = c')
    | .map a, .map b => decide (a = b)
    | .func f a b, .func g c d => decide (f = g) && sameL (sameV n) a.toList c.toList && sameL (sameV n) b.toList d.toList
    | .nilFunc, .nilFunc => true
    | .nilIface, .nilIface => true
    | .iface t a, .iface u b => decide (t = u) && sameV n a b
    | .agg a, .agg b => sameL (sameV n) a.toList b.toList
    | .tuple a, .tuple b => sameL (sameV n) a.toList b.toList
    | _, _ => false

theorem sameL_eq {f : Value → Value → Bool} (h : ∀ a b, f a b = true → a = b) : ∀ {l l' : List Value}, sameL f l l' = true → l = l'
  | [], [], _ => rfl
  | [], _ :: _, h => by cases h
  | _ :: _, [], h => by cases h
  | a :: x, b :: y, hh => by
    simp only [sameL, Bool.and_eq_true] at hh
    rw [h _ _ hh.1, sameL_eq h hh.2]
theorem sameV_eq : ∀ (n : Nat) (x y : Value), sameV n x y = true → x = y
  | 0, _, _, h => by cases h
  | n + 1, x, y, h => by
    have ih : ∀ {l l' : List Value}, sameL (sameV n) l l' = true → l = l' := fun h => sameL_eq (sameV_eq n) h
    have arr : ∀ {a b : Array Value}, sameL (sameV n) a.toList b.toList = true → a = b := fun h => Array.ext' (ih h)
    unfold sameV at h
    split at h
    · simp at h; rw [h]
    · simp at h; rw [h.1, h.2]
    · simp at h; rw [h.1, h.2]
    · simp at h; rw [h]
    · simp at h; rw [h]
    · simp at h; rw [h.1.1, h.1.2, h.2]
    · simp at h; rw [h]
    · simp only [Bool.and_eq_true, decide_eq_true_eq] at h; rw [h.1.1, arr h.1.2, arr h.2]
    · rfl
    · rfl
    · simp only [Bool.and_eq_true, decide_eq_true_eq] at h; rw [h.1, sameV_eq n _ _ h.2]
    · rw [arr h]
    · rw [arr h]
    · cases h

def aopVal (X : XT) (P : Program) (env : Env) (H : AHeap) (op : Op) : Option Value :=
  match aop X P (evalO env) H op with
  | some (.val v, _) => some v
  | _ => none

/-- One operation of a region that draws its order. What it makes lies under a number kept for it. -/
def stepD (X : XT) (P : Program) (call : ACalls) (Γ : Gam) (id : Nat) (d : DOp) (env : Env) (H : AHeap) : Option (Env × AHeap) :=
  if d.nw = true then
    match stepOp X P call Γ d.o env { H with next := id } with
    | some (env', H') => some (env', { H' with next := H.next })
    | none => none
  else stepOp X P call Γ d.o env H

/-- The states ahead of each operation, and at the end. -/
def traceOps (X : XT) (P : Program) (call : ACalls) (Γ : Gam) : Nat → List DOp → Env → AHeap → Option (List (Env × AHeap))
  | _, [], env, H => some [(env, H)]
  | id, d :: r, env, H =>
    match stepD X P call Γ id d env H with
    | some (env', H') => (traceOps X P call Γ (id + 1) r env' H').map ((env, H) :: ·)
    | none => none

def readAgain (X : XT) (P : Program) (tr : List (Env × AHeap)) (o : SOp) (env : Env) (v : Value) (p : Nat) : Bool :=
  match tr[p]? with
  | some s =>
    match aopVal X P env s.2 o.op with
    | some u => sameV 8 v u
    | none => false
  | none => false

def stable (X : XT) (P : Program) (tr : List (Env × AHeap)) : List DOp → List (Env × AHeap) → Bool
  | [], _ => true
  | d :: r, s :: t =>
    (match d.at_ with
     | [] => true
     | ps =>
       if wantedE s.1 d.o.guard = true then
         match aopVal X P s.1 s.2 d.o.op with
         | some v => ps.all (readAgain X P tr d.o s.1 v)
         | none => false
       else true) && stable X P tr r t
  | _ :: _, [] => false

def execDraw (X : XT) (P : Program) (call : ACalls) (Γ : Gam) (ds : List DOp) (env : Env) (H : AHeap) : Option (Env × AHeap) :=
  match traceOps X P call Γ H.next ds env { H with next := H.next + ds.length } with
  | some tr => if stable X P tr ds tr = true then tr.getLast? else none
  | none => none

abbrev Out := AX × Env × AHeap

def execLoop (body : Env → AHeap → Option Out) : Nat → Env → AHeap → Option Out
  | 0, _, _ => none
  | n + 1, e, h =>
    match body e h with
    | some (.normal, e', h') => execLoop body n e' h'
    | r => r

/-- A round's slots: its parameters set. -/
def setAll (env : Env) : List Tmp → List Value → Env
  | t :: ts, v :: vs => setAll (env.set t v) ts vs
  | _, _ => env

/-- A new block's number, for what is no row of cells. -/
def AHeap.skip (H : AHeap) : AHeap := { H with next := H.next + 1 }

def exec (X : XT) (P : Program) (call : ACalls) (n : Nat) (Γ : Gam) : SCode → Env → AHeap → Option Out
  | .skip, e, h => some (.normal, e, h)
  | .reg ops, e, h =>
    match execOps X P call Γ ops e h with
    | some (e', h') => some (.normal, e', h')
    | none => none
  | .draw ds, e, h =>
    match execDraw X P call Γ ds e h with
    | some (e', h') => some (.normal, e', h')
    | none => none
  | .seq x y, e, h =>
    match exec X P call n Γ x e h with
    | some (.normal, e', h') => exec X P call n Γ y e' h'
    | r => r
  | .cond c x y, e, h =>
    match evalO e c with
    | .bool true => exec X P call n Γ x e h
    | .bool false => exec X P call n Γ y e h
    | _ => none
  | .block id c, e, h =>
    match exec X P call n Γ c e h with
    | some (.exit i, e', h') => if i = id then some (.normal, e', h') else some (.exit i, e', h')
    | r => r
  | .loop c, e, h => execLoop (exec X P call n Γ c) n e h
  | .exit id, e, h => some (.exit id, e, h)
  | .ret, e, h => some (.ret, e, h)
  | .range f ps a b, e, h =>
    match evalO e f with
    | .func (.func g) first captured =>
      if enterable P g = true then
        match call.fn ((h.fresh, ⟨e, ps, a, b⟩) :: Γ) g (first.toList ++ [.func (.yield h.fresh) #[] #[]] ++ captured.toList) h.skip with
        | some (_, h') => some (.normal, e, h')
        | none => none
      else none
    | _ => none

structure SFun where
  ntmps : Nat
  results : List ResultVar
  code : SCode

def aresult (P : Program) (env : Env) (H : AHeap) : ResultVar → Option Value
  | .tmp t => some (env.get t)
  | .cell a t => loadOp P H t (env.get a)

def aresults (P : Program) (rs : List ResultVar) (env : Env) (H : AHeap) : Option Value :=
  match rs.mapM (aresult P env H) with
  | some [v] => some v
  | some vs => some (.tuple vs.toArray)
  | none => none

/-- A program's functions without what a run does not look at; and what stands in for some of them. -/
structure Setup where
  P : Program
  X : XT
  S : FuncId → Option SFun
  prim : FuncId → Option (List Value → AHeap → Option (Value × AHeap))

def acalls (Y : Setup) : Nat → ACalls
  | 0 => ⟨fun _ _ _ _ => none, fun _ _ _ _ => none⟩
  | n + 1 =>
    { fn := fun Γ f args H =>
        match Y.prim f with
        | some p => p args H
        | none =>
          match Y.S f with
          | none => none
          | some sf =>
            match exec Y.X Y.P (acalls Y n) n Γ sf.code (Env.start sf.ntmps args) H with
            | some (.normal, e, h) => (aresults Y.P sf.results e h).map fun v => (v, h)
            | some (.ret, e, h) => (aresults Y.P sf.results e h).map fun v => (v, h)
            | _ => none
      yl := fun Γ b args H =>
        match Γ.find? (·.1 == b) with
        | none => none
        | some (_, L) =>
          if args.length = L.params.length then
            match exec Y.X Y.P (acalls Y n) n (Γ.filter (·.1 != b)) L.assign (setAll L.env L.params args) H with
            | some (.normal, e, h) =>
              match exec Y.X Y.P (acalls Y n) n (Γ.filter (·.1 != b)) L.body e h with
              | some (.normal, _, h') => some (.bool true, h')
              | _ => none
            | _ => none
          else none }

end Go.Big
