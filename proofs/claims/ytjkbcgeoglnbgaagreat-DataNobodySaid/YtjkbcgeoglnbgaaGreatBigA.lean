/-
  The abstract evaluator: a deterministic run of a function's code over an abstract heap. Definitions alone, and the laws of the heap.
-/
import Derived.Orders
import Derived.Laws.Cells
import Derived.KernelRfl
namespace Go.Big

/-- A block of the abstract heap. 'ro': it may not be written. 'grow = some e': there may be spare room behind what is known (elements of e cells). -/
structure Blk where
  cells : List Value
  ro : Bool := false
  grow : Option Nat := none
  deriving Inhabited

inductive Tr where
  | nil
  | node (l : Tr) (v : Option Blk) (r : Tr)
  deriving Inhabited

def Tr.get : Tr → Nat → Option Blk
  | .nil, _ => none
  | .node l v r, k => if k = 0 then v else if k % 2 = 1 then l.get (k / 2) else r.get (k / 2 - 1)

def Tr.setF : Nat → Tr → Nat → Option Blk → Tr
  | 0, t, _, _ => t
  | f + 1, .nil, k, x =>
    if k = 0 then .node .nil x .nil
    else if k % 2 = 1 then .node (Tr.setF f .nil (k / 2) x) none .nil else .node .nil none (Tr.setF f .nil (k / 2 - 1) x)
  | f + 1, .node l v r, k, x =>
    if k = 0 then .node l x r
    else if k % 2 = 1 then .node (Tr.setF f l (k / 2) x) v r else .node l v (Tr.setF f r (k / 2 - 1) x)

def Tr.set (t : Tr) (k : Nat) (x : Option Blk) : Tr := Tr.setF (k + 1) t k x

theorem Tr.get_setF (x : Option Blk) : ∀ (f : Nat) (t : Tr) (k j : Nat), k < f → (Tr.setF f t k x).get j = if j = k then x else t.get j := by
  intro f
  induction f with
  | zero => intro t k j h; omega
  | succ f ih =>
    intro t k j h
    cases t with
    | nil =>
      by_cases hk : k = 0
      · subst hk
        by_cases hj : j = 0
        · simp [Tr.setF, Tr.get, hj]
        · simp [Tr.setF, Tr.get, hj]
      · by_cases hk2 : k % 2 = 1
        · simp only [Tr.setF, if_neg hk, if_pos hk2, Tr.get]
          by_cases hj : j = 0
          · rw [if_pos hj, if_neg (by omega)]
          · rw [if_neg hj]
            by_cases hj2 : j % 2 = 1
            · rw [if_pos hj2, ih _ _ _ (by omega)]
              by_cases e : j = k
              · rw [if_pos e, if_pos (by omega)]
              · rw [if_neg e, if_neg (by omega)]; rfl
            · rw [if_neg hj2, if_neg (by rintro rfl; exact hj2 hk2)]
        · simp only [Tr.setF, if_neg hk, if_neg hk2, Tr.get]
          by_cases hj : j = 0
          · rw [if_pos hj, if_neg (by omega)]
          · rw [if_neg hj]
            by_cases hj2 : j % 2 = 1
            · rw [if_pos hj2, if_neg (by rintro rfl; exact hk2 hj2)]
            · rw [if_neg hj2, ih _ _ _ (by omega)]
              by_cases e : j = k
              · rw [if_pos e, if_pos (by omega)]
              · rw [if_neg e, if_neg (by omega)]; rfl
    | node l v r =>
      by_cases hk : k = 0
      · subst hk
        by_cases hj : j = 0
        · simp [Tr.setF, Tr.get, hj]
        · simp [Tr.setF, Tr.get, hj]
      · by_cases hk2 : k % 2 = 1
        · simp only [Tr.setF, if_neg hk, if_pos hk2, Tr.get]
          by_cases hj : j = 0
          · rw [if_pos hj, if_neg (by omega), if_pos hj]
          · rw [if_neg hj, if_neg hj]
            by_cases hj2 : j % 2 = 1
            · rw [if_pos hj2, if_pos hj2, ih _ _ _ (by omega)]
              by_cases e : j = k
              · rw [if_pos e, if_pos (by omega)]
              · rw [if_neg e, if_neg (by omega)]
            · rw [if_neg hj2, if_neg hj2, if_neg (by rintro rfl; exact hj2 hk2)]
        · simp only [Tr.setF, if_neg hk, if_neg hk2, Tr.get]
          by_cases hj : j = 0
          · rw [if_pos hj, if_neg (by omega), if_pos hj]
          · rw [if_neg hj, if_neg hj]
            by_cases hj2 : j % 2 = 1
            · rw [if_pos hj2, if_pos hj2, if_neg (by rintro rfl; exact hk2 hj2)]
            · rw [if_neg hj2, if_neg hj2, ih _ _ _ (by omega)]
              by_cases e : j = k
              · rw [if_pos e, if_pos (by omega)]
              · rw [if_neg e, if_neg (by omega)]

theorem Tr.get_set (t : Tr) (k j : Nat) (x : Option Blk) : (t.set k x).get j = if j = k then x else t.get j :=
  Tr.get_setF x (k + 1) t k j (by omega)

/-- The abstract heap. Block 2k: the k-th of the run's own; block 2b+1: block b of the world in which the run began. -/
structure AHeap where
  next : Nat
  own : Tr
  old : Nat → Option (List Value)

def AHeap.get (H : AHeap) (b : Nat) : Option Blk :=
  if b % 2 = 0 then H.own.get (b / 2) else (H.old (b / 2)).map fun c => { cells := c, ro := true }
def AHeap.set (H : AHeap) (b : Nat) (x : Option Blk) : AHeap := { H with own := H.own.set (b / 2) x }
def AHeap.alloc (H : AHeap) (x : Blk) : AHeap := { H with next := H.next + 1, own := H.own.set H.next (some x) }
def AHeap.fresh (H : AHeap) : Nat := 2 * H.next

theorem AHeap.get_set_same (H : AHeap) {b : Nat} (x : Option Blk) (hb : b % 2 = 0) : (H.set b x).get b = x := by
  simp [AHeap.get, AHeap.set, hb, Tr.get_set]
theorem AHeap.get_set_ne (H : AHeap) {b j : Nat} (x : Option Blk) (hb : b % 2 = 0) (h : j ≠ b) : (H.set b x).get j = H.get j := by
  unfold AHeap.get AHeap.set
  by_cases hj : j % 2 = 0
  · simp only [hj, if_true, Tr.get_set]
    rw [if_neg (by omega)]
  · simp only [hj, if_false]
theorem AHeap.get_alloc (H : AHeap) (x : Blk) (j : Nat) : (H.alloc x).get j = if j = H.fresh then some x else H.get j := by
  unfold AHeap.get AHeap.alloc AHeap.fresh
  by_cases hj : j % 2 = 0
  · simp only [hj, if_true, Tr.get_set]
    by_cases e : j / 2 = H.next
    · rw [if_pos e, if_pos (by omega)]
    · rw [if_neg e, if_neg (by omega)]
  · simp only [hj, if_false]
    rw [if_neg (by omega)]
theorem AHeap.get_alloc_same (H : AHeap) (x : Blk) : (H.alloc x).get H.fresh = some x := by rw [get_alloc, if_pos rfl]
theorem AHeap.get_alloc_ne (H : AHeap) (x : Blk) {j : Nat} (h : j ≠ H.fresh) : (H.alloc x).get j = H.get j := by rw [get_alloc, if_neg h]
@[simp] theorem AHeap.next_set (H : AHeap) (b : Nat) (x : Option Blk) : (H.set b x).next = H.next := rfl
@[simp] theorem AHeap.next_alloc (H : AHeap) (x : Blk) : (H.alloc x).next = H.next + 1 := rfl

/-- The capacity of a slice over a block with spare room behind it. -/
def capG : Nat := 4611686018427387904

/-- Cells of a list from a place on replaced. -/
def splice (cells : List Value) (o : Nat) (vs : List Value) : List Value := cells.take o ++ (vs ++ cells.drop (o + vs.length))

def AHeap.loadN (H : AHeap) (b o n : Nat) : Option (List Value) :=
  match H.get b with
  | some x => if o + n ≤ x.cells.length then some ((x.cells.drop o).take n) else none
  | none => none
def AHeap.load1 (H : AHeap) (b o : Nat) : Option Value :=
  match H.get b with
  | some x => x.cells[o]?
  | none => none
def AHeap.store (H : AHeap) (b o : Nat) (vs : List Value) : Option AHeap :=
  match H.get b with
  | some x => if x.ro = false ∧ b % 2 = 0 ∧ o + vs.length ≤ x.cells.length ∧ vs.all (·.oneCell') = true then some (H.set b (some { x with cells := splice x.cells o vs })) else none
  | none => none

/-! the operations -/

def isAggOf (P : Program) (t : TypeId) : Option Bool :=
  match P.underlying t with
  | some (.struct _) => some true
  | some (.array _ _) => some true
  | some _ => some false
  | none => none

def loadOp (P : Program) (H : AHeap) (t : TypeId) : Value → Option Value
  | .pointer (some ⟨b, o, none⟩) =>
    match isAggOf P t, P.info? t with
    | some true, some i => (H.loadN b o i.size).map fun l => .agg l.toArray
    | some false, _ => H.load1 b o
    | _, _ => none
  | _ => none

def storeOp (P : Program) (H : AHeap) (t : TypeId) (a v : Value) : Option AHeap :=
  match a, P.info? t with
  | .pointer (some ⟨b, o, none⟩), some i => if v.cells.size = i.size then H.store b o v.cells.toList else none
  | _, _ => none

def newOp (H : AHeap) (cells : List Value) : Value × AHeap := (.pointer (some ⟨H.fresh, 0, none⟩), H.alloc { cells })

def binInt (op : BinOp) (k : IntKind) (a b : Int) : Option Value :=
  match op with
  | .add => some (.int k (k.wrap (a + b)))
  | .sub => some (.int k (k.wrap (a - b)))
  | .mul => some (.int k (k.wrap (a * b)))
  | .quo => if b = 0 then none else some (.int k (k.wrap (a.tdiv b)))
  | .rem => if b = 0 then none else some (.int k (a.tmod b))
  | .and => some (.int k (k.wrap (BitVec.ofInt k.bits a &&& BitVec.ofInt k.bits b).toNat))
  | .or => some (.int k (k.wrap (BitVec.ofInt k.bits a ||| BitVec.ofInt k.bits b).toNat))
  | .xor => some (.int k (k.wrap (BitVec.ofInt k.bits a ^^^ BitVec.ofInt k.bits b).toNat))
  | .andNot => some (.int k (k.wrap (BitVec.ofInt k.bits a &&& ~~~ BitVec.ofInt k.bits b).toNat))
  | .eql => some (.bool (a == b))
  | .neq => some (.bool (a != b))
  | .lss => some (.bool (decide (a < b)))
  | .leq => some (.bool (decide (a ≤ b)))
  | .gtr => some (.bool (decide (a > b)))
  | .geq => some (.bool (decide (a ≥ b)))
  | _ => none

def shiftOp (op : BinOp) (k : IntKind) (a b : Int) : Option Value :=
  if b < 0 then none else
  match op with
  | .shl => some (.int k (k.wrap (a * 2 ^ (min b.toNat k.bits))))
  | .shr => some (.int k (a.fdiv (2 ^ (min b.toNat k.bits))))
  | _ => none

def binStr (op : BinOp) (x y : ByteArray) : Option Value :=
  match op with
  | .add => if ((x.size + y.size : Nat) : Int) > IntKind.i64.max then none else some (.string (x ++ y))
  | .eql => some (.bool (x.toList == y.toList))
  | .neq => some (.bool !(x.toList == y.toList))
  | .lss => some (.bool (Op.bytesLess x.toList y.toList))
  | .leq => some (.bool (Op.bytesLess x.toList y.toList || x.toList == y.toList))
  | .gtr => some (.bool !(Op.bytesLess x.toList y.toList || x.toList == y.toList))
  | .geq => some (.bool !(Op.bytesLess x.toList y.toList))
  | _ => none

/-- '==' of what is no number and no string: bools, and what is held against nil. -/
def eqOp (P : Program) (t : TypeId) (x y : Value) : Option Bool :=
  match P.underlying t, x, y with
  | some .bool, .bool a, .bool b => some (a == b)
  | some (.pointer _), .pointer none, .pointer b => some b.isNone
  | some (.pointer _), .pointer (some _), .pointer none => some false
  | some (.slice _), .slice none _ _, .slice b _ _ => some b.isNone
  | some (.slice _), .slice (some _) _ _, .slice none _ _ => some false
  | some (.map _ _), .map none, .map b => some b.isNone
  | some (.map _ _), .map (some _), .map none => some false
  | some (.func _ _ _), .nilFunc, .nilFunc => some true
  | some (.func _ _ _), .nilFunc, .func _ _ _ => some false
  | some (.func _ _ _), .func _ _ _, .nilFunc => some false
  | _, _, _ => none

def binOp (P : Program) (op : BinOp) (t : TypeId) (x y : Value) : Option Value :=
  match x, y with
  | .int k a, .int k' b =>
    match op with
    | .shl => shiftOp .shl k a b
    | .shr => shiftOp .shr k a b
    | op => if k = k' then binInt op k a b else none
  | .string a, .string b => binStr op a b
  | x, y =>
    match op with
    | .eql => (eqOp P t x y).map .bool
    | .neq => (eqOp P t x y).map fun b => .bool !b
    | _ => none

def unOp (op : UnOp) (x : Value) : Option Value :=
  match op, x with
  | .neg, .int k n => some (.int k (k.wrap (0 - n)))
  | .not, .bool b => some (.bool !b)
  | _, _ => none

/-- The bytes of cells. -/
def bytesOf : List Value → Option (List UInt8)
  | [] => some []
  | .int .u8 n :: r => (bytesOf r).map (UInt8.ofNat n.toNat :: ·)
  | _ => none

def convOp (P : Program) (src dst : TypeId) (x : Value) (H : AHeap) : Option (Value × AHeap) :=
  match P.underlying src, P.underlying dst, x with
  | some _, some (.int k), .int _ n => some (.int k (k.wrap n), H)
  | some _, some .string, .string s => some (.string s, H)
  | some (.slice e), some .string, .slice none _ _ =>
    match P.underlying e with
    | some (.int .u8) => some (.string .empty, H)
    | _ => none
  | some (.slice e), some .string, .slice (some ⟨b, o, none⟩) n _ =>
    match P.underlying e with
    | some (.int .u8) => ((H.loadN b o n).bind bytesOf).map fun l => (.string ⟨l.toArray⟩, H)
    | _ => none
  | some .string, some (.slice e), .string s =>
    match P.underlying e with
    | some (.int .u8) => some (.slice (some ⟨H.fresh, 0, none⟩) s.size capG, H.alloc { cells := s.data.toList.map fun b => .int .u8 b.toNat, grow := some 1 })
    | _ => none
  | _, _, _ => none

/-- A cell's value that names no block. -/
def flatV : Value → Bool
  | .bool _ | .int _ _ | .float _ _ | .complex _ _ _ | .string _ | .pointer none | .slice none _ _ | .map none | .nilFunc | .nilIface => true
  | _ => false
def flatC : Value → Bool
  | .agg cs => cs.toList.all flatV
  | .tuple cs => cs.toList.all flatV
  | v => flatV v

def zeroOf (P : Program) (t : TypeId) : Option (List Value) :=
  match P.info? t with
  | some i =>
    match i.zero with
    | some z => if z.cells.size = i.size ∧ z.cells.toList.all flatV = true then some z.cells.toList else none
    | none => none
  | none => none

def repl (n : Nat) (z : List Value) : List Value := (List.replicate n z).flatten

def makeSliceOp (P : Program) (t : TypeId) (l c : Value) (H : AHeap) : Option (Value × AHeap) :=
  match P.underlying t, l, c with
  | some (.slice e), .int _ l, .int _ c =>
    match P.info? e, zeroOf P e with
    | some i, some z =>
      if 0 ≤ l ∧ l ≤ c ∧ c < 4611686018427387904 ∧ i.bytes * c.toNat ≤ 281474976710656 then
        some (.slice (some ⟨H.fresh, 0, none⟩) l.toNat c.toNat, H.alloc { cells := repl c.toNat z })
      else none
    | _, _ => none
  | _, _, _ => none

/-- A bound of a slice expression. -/
def bound (hi : Nat) : Value → Option Nat
  | .int _ i => if 0 ≤ i ∧ i ≤ (hi : Int) then some i.toNat else none
  | _ => none

/-- How far a slice's capacity is known to reach. -/
def knownCap (H : AHeap) (b o e len cap : Nat) : Nat :=
  if cap = capG then
    match H.get b with
    | some x => if o = 0 ∧ x.grow = some e ∧ e ≠ 0 then max len (x.cells.length / e) else len
    | none => len
  else cap

def bounds3 (k len : Nat) (lo hi mx : Option Value) : Option (Nat × Nat × Nat) :=
  match (match mx with | some v => bound k v | none => some k) with
  | none => none
  | some m =>
    match (match hi, mx with | some v, _ => bound m v | none, none => some len | none, some _ => none) with
    | none => none
    | some h =>
      match (match lo with | some v => bound h v | none => some 0) with
      | none => none
      | some l => if l ≤ h ∧ (h ≤ m ∨ (hi.isNone = true ∧ h = len)) then some (l, h, m) else none

def sliceOp (P : Program) (t : TypeId) (x : Value) (lo hi mx : Option Value) (H : AHeap) : Option Value :=
  match P.underlying t, x with
  | some .string, .string s =>
    if mx.isSome then none else
    match bounds3 s.size s.size lo hi none with
    | some (l, h, _) => some (.string (s.extract l h))
    | none => none
  | some (.slice e), .slice none len cap =>
    match P.info? e, bounds3 cap len lo hi mx with
    | some _, some (l, h, m) => some (.slice none (h - l) (m - l))
    | _, _ => none
  | some (.slice e), .slice (some ⟨b, o, none⟩) len cap =>
    match P.info? e with
    | none => none
    | some i =>
      match bounds3 (knownCap H b o i.size len cap) len lo hi mx with
      | none => none
      | some (l, h, m) =>
        if cap = capG then
          if i.size = 0 then none
          else if mx.isSome = true then
            if o = 0 ∧ m - l ≠ capG then some (.slice (some ⟨b, if m = l then o else o + l * i.size, none⟩) (h - l) (m - l)) else none
          else if len ≤ m then some (.slice (some ⟨b, o + l * i.size, none⟩) (h - l) capG) else none
        else if m - l ≠ capG then some (.slice (some ⟨b, if m = l then o else o + l * i.size, none⟩) (h - l) (m - l))
        else none
  | _, _ => none

def fieldAddrOp (P : Program) (s : TypeId) (x : Value) (f : Nat) : Option Value :=
  match P.underlying s, x with
  | some (.struct fs), .pointer (some ⟨b, o, none⟩) =>
    match fs[f]? with
    | some fd =>
      match P.info? fd.type with
      | some i => if i.size = 0 then none else some (.pointer (some ⟨b, o + fd.offset, none⟩))
      | none => none
    | none => none
  | _, _ => none

def partOf (P : Program) (t : TypeId) (cs : Array Value) (off : Nat) : Option Value :=
  match isAggOf P t, P.info? t with
  | some true, some i => some (.agg (cs.extract off (off + i.size)))
  | some false, _ => cs[off]?
  | _, _ => none

def fieldOp (P : Program) (s : TypeId) (x : Value) (f : Nat) : Option Value :=
  match P.underlying s, x with
  | some (.struct fs), .agg cs =>
    match fs[f]? with
    | some fd => partOf P fd.type cs fd.offset
    | none => none
  | _, _ => none

def indexAddrOp (P : Program) (t : TypeId) (x i : Value) : Option Value :=
  match P.underlying t, x, i with
  | some (.slice e), .slice (some ⟨b, o, none⟩) len _, .int _ i =>
    match P.info? e with
    | some d => if 0 ≤ i ∧ i < (len : Int) then some (.pointer (some ⟨b, o + i.toNat * d.size, none⟩)) else none
    | none => none
  | some (.array n e), .pointer (some ⟨b, o, none⟩), .int _ i =>
    match P.info? e with
    | some d => if 0 ≤ i ∧ i < (n : Int) then some (.pointer (some ⟨b, o + i.toNat * d.size, none⟩)) else none
    | none => none
  | _, _, _ => none

def indexOp (P : Program) (t : TypeId) (x i : Value) : Option Value :=
  match P.underlying t, x, i with
  | some .string, .string s, .int _ i => if 0 ≤ i then (s[i.toNat]?).map fun b => .int .u8 b.toNat else none
  | some (.array n e), .agg cs, .int _ i =>
    match P.info? e with
    | some d => if 0 ≤ i ∧ i < (n : Int) then partOf P e cs (i.toNat * d.size) else none
    | none => none
  | _, _, _ => none

def extractOp (x : Value) (i : Nat) : Option Value :=
  match x with
  | .tuple vs => vs[i]?
  | _ => none

/-- How many elements an argument of append or copy has, and their cells. -/
def srcOf (H : AHeap) (e : Nat) : Value → Option (Nat × List Value)
  | .slice none n _ => if n = 0 then some (0, []) else none
  | .slice (some ⟨b, o, none⟩) n _ => (H.loadN b o (n * e)).map fun l => (n, l)
  | .string s => if e = 1 then some (s.size, s.data.toList.map fun b => .int .u8 b.toNat) else none
  | _ => none

/-- (the arm 'append(s, make(..)...)', whose second argument's type is an integer's, is not taken here) -/
def noIntB (P : Program) (ts : Array TypeId) : Bool :=
  match ts[1]? with
  | none => true
  | some t =>
    match P.underlying t with
    | some (.int _) => false
    | some _ => true
    | none => false

def roomFor (need bytes : Nat) : Bool := decide ((2 * need + 1024) * bytes ≤ 281474976710656 ∧ need < 4611686018427387904)

def appendTo (e bytes : Nat) (s : Value) (n : Nat) (xs : List Value) (H : AHeap) : Option (Value × AHeap) :=
  match s with
  | .slice none 0 0 =>
    if n = 0 then some (s, H)
    else if roomFor n bytes = true then some (.slice (some ⟨H.fresh, 0, none⟩) n capG, H.alloc { cells := xs, grow := some e })
    else none
  | .slice (some ⟨b, o, none⟩) len cap =>
    if n = 0 then (if len ≤ knownCap H b o e len cap then some (s, H) else none)
    else if len + n ≤ knownCap H b o e len cap then
      match H.store b (o + len * e) xs with
      | some H' => some (.slice (some ⟨b, o, none⟩) (len + n) cap, H')
      | none => none
    else if roomFor (len + n) bytes = true then
      match H.loadN b o (len * e) with
      | none => none
      | some old =>
        if cap ≠ capG then some (.slice (some ⟨H.fresh, 0, none⟩) (len + n) capG, H.alloc { cells := old ++ xs, grow := some e })
        else
          match H.get b with
          | some y =>
            if o = 0 ∧ y.ro = false ∧ b % 2 = 0 ∧ y.grow = some e ∧ y.cells.length = len * e ∧ xs.all (·.oneCell') = true then
              some (.slice (some ⟨H.fresh, 0, none⟩) (len + n) capG, (H.set b none).alloc { cells := old ++ xs, grow := some e })
            else none
          | none => none
    else none
  | _ => none

def appendOp (P : Program) (ts : Array TypeId) (s x : Value) (H : AHeap) : Option (Value × AHeap) :=
  match ts[0]? with
  | none => none
  | some st =>
  match P.underlying st with
  | some (.slice et) =>
    match P.info? et, zeroOf P et with
    | some i, some _ =>
      if noIntB P ts = true then
        match srcOf H i.size x with
        | some (n, xs) => appendTo i.size i.bytes s n xs H
        | none => none
      else none
    | _, _ => none
  | _ => none

def copyOp (P : Program) (ts : Array TypeId) (d x : Value) (H : AHeap) : Option (Value × AHeap) :=
  match ts[0]? with
  | none => none
  | some st =>
  match P.underlying st with
  | some (.slice et) =>
    match P.info? et with
    | some i =>
      match srcOf H i.size x with
      | none => none
      | some (n, xs) =>
        match d with
        | .slice none 0 _ => some (.int .i64 0, H)
        | .slice (some ⟨b, o, none⟩) len _ =>
          if Nat.min n len = 0 then some (.int .i64 0, H) else
          match H.store b o (xs.take (Nat.min n len * i.size)) with
          | some H' => some (.int .i64 (Nat.min n len), H')
          | none => none
        | _ => none
    | none => none
  | _ => none

def clearOp (P : Program) (ts : Array TypeId) (x : Value) (H : AHeap) : Option (Value × AHeap) :=
  match (ts[0]?).bind P.underlying, x with
  | some _, .slice none _ _ => some (.tuple #[], H)
  | some (.slice e), .slice (some ⟨b, o, none⟩) n _ =>
    if n = 0 then some (.tuple #[], H) else
    match zeroOf P e with
    | some z => (H.store b o (repl n z)).map fun H' => (.tuple #[], H')
    | none => none
  | _, _ => none

def lenOp (P : Program) (ts : Array TypeId) (x : Value) : Option Value :=
  match (ts[0]?).bind P.underlying, x with
  | some .string, .string s => some (.int .i64 s.size)
  | some (.slice _), .slice _ n _ => some (.int .i64 n)
  | some (.array n _), _ => some (.int .i64 n)
  | _, _ => none

def capOp (P : Program) (ts : Array TypeId) (x : Value) : Option Value :=
  match (ts[0]?).bind P.underlying, x with
  | some (.slice _), .slice _ _ c => if c = capG then none else some (.int .i64 c)
  | _, _ => none

def max2 : Value → Value → Option Value
  | .int k x, .int _ y => some (.int k (if y > x then y else x))
  | _, _ => none
def min2 : Value → Value → Option Value
  | .int k x, .int _ y => some (.int k (if y < x then y else x))
  | _, _ => none
def fold2 (f : Value → Value → Option Value) : List Value → Option Value
  | [] => none
  | x :: r => r.foldlM f x

def builtinOp (P : Program) (b : Builtin) (ts : Array TypeId) (args : List Value) (H : AHeap) : Option (Value × AHeap) :=
  match b, args with
  | .append, [s, x] => appendOp P ts s x H
  | .copy, [d, x] => copyOp P ts d x H
  | .clear, [x] => clearOp P ts x H
  | .len, [x] => (lenOp P ts x).map (·, H)
  | .cap, [x] => (capOp P ts x).map (·, H)
  | .max, l => (fold2 max2 l).map (·, H)
  | .min, l => (fold2 min2 l).map (·, H)
  | _, _ => none

/-- A frame's slots: a tree, found by the path of a slot's number. -/
inductive Tv where
  | nil
  | node (l : Tv) (v : Value) (r : Tv)
  deriving Inhabited

def pathF : Nat → Nat → List Bool
  | 0, _ => []
  | f + 1, t => if t = 0 then [] else if t % 2 = 1 then false :: pathF f (t / 2) else true :: pathF f (t / 2 - 1)
def pathOf (t : Nat) : List Bool := pathF (t + 1) t
def Tv.get : List Bool → Tv → Value
  | _, .nil => undef
  | [], .node _ v _ => v
  | false :: p, .node l _ _ => Tv.get p l
  | true :: p, .node _ _ r => Tv.get p r
def Tv.set : List Bool → Value → Tv → Tv
  | [], v, .nil => .node .nil v .nil
  | [], v, .node l _ r => .node l v r
  | false :: p, v, .nil => .node (Tv.set p v .nil) undef .nil
  | true :: p, v, .nil => .node .nil undef (Tv.set p v .nil)
  | false :: p, v, .node l u r => .node (Tv.set p v l) u r
  | true :: p, v, .node l u r => .node l u (Tv.set p v r)

theorem Tv.get_nil (p : List Bool) : Tv.get p .nil = undef := by cases p <;> rfl
theorem Tv.get_set : ∀ (p q : List Bool) (v : Value) (t : Tv), Tv.get p (Tv.set q v t) = if p = q then v else Tv.get p t
  | [], [], v, .nil => rfl
  | [], [], v, .node l u r => rfl
  | [], false :: q, v, .nil => rfl
  | [], true :: q, v, .nil => rfl
  | [], false :: q, v, .node l u r => rfl
  | [], true :: q, v, .node l u r => rfl
  | b :: p, [], v, .nil => by cases b <;> simp [Tv.set, Tv.get, Tv.get_nil]
  | b :: p, [], v, .node l u r => by cases b <;> simp [Tv.set, Tv.get]
  | b :: p, c :: q, v, .nil => by
    cases b <;> cases c <;> simp [Tv.set, Tv.get, Tv.get_nil, Tv.get_set p q v .nil]
  | b :: p, c :: q, v, .node l u r => by
    cases b <;> cases c <;> simp [Tv.set, Tv.get, Tv.get_set p q v]

def pathDec : List Bool → Nat
  | [] => 0
  | false :: p => 2 * pathDec p + 1
  | true :: p => 2 * pathDec p + 2
theorem pathDec_pathF : ∀ (f t : Nat), t < f → pathDec (pathF f t) = t
  | 0, t, h => by omega
  | f + 1, t, h => by
    unfold pathF
    by_cases h0 : t = 0
    · rw [if_pos h0, h0]; rfl
    · rw [if_neg h0]
      by_cases h1 : t % 2 = 1
      · rw [if_pos h1]; simp only [pathDec]; rw [pathDec_pathF f _ (by omega)]; omega
      · rw [if_neg h1]; simp only [pathDec]; rw [pathDec_pathF f _ (by omega)]; omega
theorem pathOf_inj {s t : Nat} (h : pathOf s = pathOf t) : s = t := by
  rw [← pathDec_pathF (s + 1) s (by omega), ← pathDec_pathF (t + 1) t (by omega)]
  exact congrArg pathDec h

structure Env where
  n : Nat
  tr : Tv

def Env.get (e : Env) (t : Tmp) : Value := Tv.get (pathOf t) e.tr
def Env.set (e : Env) (t : Tmp) (v : Value) : Env := if Nat.ble e.n t = true then e else { e with tr := Tv.set (pathOf t) v e.tr }
theorem Env.get_set (e : Env) (t s : Tmp) (v : Value) : (e.set t v).get s = if s = t ∧ t < e.n then v else e.get s := by
  unfold Env.set
  by_cases h : e.n ≤ t
  · rw [if_pos (Nat.ble_eq_true_of_le h), if_neg (fun q => absurd q.2 (Nat.not_lt.2 h))]
  · rw [if_neg (by simpa using h)]
    unfold Env.get
    rw [Tv.get_set]
    by_cases hs : s = t
    · rw [if_pos (by rw [hs]), if_pos ⟨hs, Nat.lt_of_not_le h⟩]
    · rw [if_neg (fun e => hs (pathOf_inj e)), if_neg (fun e => hs e.1)]
@[simp] theorem Env.set_n (e : Env) (t : Tmp) (v : Value) : (e.set t v).n = e.n := by unfold Env.set; split <;> rfl

/-- A frame's slots at its start. -/
def Env.fill (n : Nat) : Nat → List Value → Tv → Tv
  | _, [], t => t
  | i, v :: r, t => Env.fill n (i + 1) r (Tv.set (pathOf i) v t)
def Env.start (n : Nat) (args : List Value) : Env := { n := args.length + (n - args.length), tr := Env.fill n 0 args .nil }

def evalO (env : Env) : Operand → Value
  | .tmp t => env.get t
  | .const v => v
  | .global g => .pointer (some ⟨2 * g + 1, 0, none⟩)
  | .func f => .func (.func f) #[] #[]

def putO (env : Env) (d : Option Tmp) (v : Value) : Env :=
  match d with
  | some d => env.set d v
  | none => env

/-- What an operation comes to: a value, or a call. -/
inductive ARes where
  | val (v : Value)
  | enter (f : FuncId) (args : List Value)
  | yield (b : Nat) (args : List Value)

def fillOp (place : Nat → Option (Nat × Nat)) (cells : List Value) : List (Nat × Value) → Option (List Value)
  | [] => some cells
  | (i, v) :: rest =>
    match place i with
    | none => none
    | some (off, size) =>
      if v.cells.size = size ∧ off + v.cells.size ≤ cells.length then fillOp place (splice cells off v.cells.toList) rest else none

def placeOf (P : Program) (fs : Array Field) (i : Nat) : Option (Nat × Nat) :=
  match fs[i]? with
  | some f => (P.info? f.type).map fun d => (f.offset, d.size)
  | none => none

def buildOp (P : Program) (t : TypeId) (parts : List (Nat × Value)) : Option Value :=
  match P.underlying t, zeroOf P t with
  | some (.struct fs), some z =>
    if fs.toList.all (fun f => (P.info? f.type).isSome) = false then none else
    (fillOp (placeOf P fs) z parts).map fun l => .agg l.toArray
  | some (.array _ e), some z =>
    match P.info? e with
    | some d => (fillOp (fun i => some (i * d.size, d.size)) z parts).map fun l => .agg l.toArray
    | none => none
  | _, _ => none

def buildSliceOp (P : Program) (t : TypeId) (len : Nat) (parts : List (Nat × Value)) (H : AHeap) : Option (Value × AHeap) :=
  match P.underlying t with
  | some (.slice e) =>
    match P.info? e, zeroOf P e with
    | some d, some z =>
      if len * d.size ≤ 16777216 ∧ len < 4611686018427387904 then
        (fillOp (fun i => some (i * d.size, d.size)) (repl len z) parts).map fun l => (.slice (some ⟨H.fresh, 0, none⟩) len len, H.alloc { cells := l })
      else none
    | _, _ => none
  | _ => none

/-- A program, its functions' code, and what stands in for some of its functions. -/
def enterable (P : Program) (f : FuncId) : Bool :=
  match P.funcs[f]? with
  | some fn => fn.body.isSome && !(fn.name == "runtime.NumGoroutine")
  | none => false

/-- What stands for functions without a Go body. -/
abbrev XT := FuncId → Option (List Value → AHeap → Option (Value × AHeap))

def callOp (X : XT) (P : Program) (ρ : Operand → Value) (c : Call) (H : AHeap) : Option (ARes × AHeap) :=
  match c.callee with
  | .builtin b => (builtinOp P b c.argTypes (c.args.toList.map ρ) H).map fun (v, H') => (.val v, H')
  | .value f =>
    match ρ f with
    | .func (.func f) first captured =>
      if enterable P f then some (.enter f (first.toList ++ c.args.toList.map ρ ++ captured.toList), H)
      else
        match X f with
        | some g => (g (first.toList ++ c.args.toList.map ρ ++ captured.toList) H).map fun (v, H') => (.val v, H')
        | none => none
    | .func (.yield b) first captured => if first.size = 0 ∧ captured.size = 0 then some (.yield b (c.args.toList.map ρ), H) else none
    | _ => none
  | .invoke _ _ => none

def aop (X : XT) (P : Program) (ρ : Operand → Value) (H : AHeap) : Op → Option (ARes × AHeap)
  | .move x | .assign x => some (.val (ρ x), H)
  | .pick c a b =>
    match ρ c with
    | .bool t => some (.val (if t then ρ a else ρ b), H)
    | _ => none
  | .alloc t => (zeroOf P t).map fun z => (.val (newOp H z).1, (newOp H z).2)
  | .box _ x => some (.val (newOp H (ρ x).cells.toList).1, (newOp H (ρ x).cells.toList).2)
  | .build t ps => (buildOp P t (ps.toList.map fun (i, x) => (i, ρ x))).map fun v => (.val v, H)
  | .buildSlice t n ps => (buildSliceOp P t n (ps.toList.map fun (i, x) => (i, ρ x)) H).map fun (v, H') => (.val v, H')
  | .load t a => (loadOp P H t (ρ a)).map fun v => (.val v, H)
  | .store t a x => (storeOp P H t (ρ a) (ρ x)).map fun H' => (.val undef, H')
  | .nilCheck x =>
    match ρ x with
    | .pointer (some a) => some (.val (.pointer (some a)), H)
    | .func (.func f) a b => some (.val (.func (.func f) a b), H)
    | _ => none
  | .binOp op t x y _ => (binOp P op t (ρ x) (ρ y)).map fun v => (.val v, H)
  | .unOp op _ x => (unOp op (ρ x)).map fun v => (.val v, H)
  | .convert s d x => (convOp P s d (ρ x) H).map fun (v, H') => (.val v, H')
  | .makeFunc fn first captured =>
    match fn with
    | .func f => some (.val (.func (.func f) (first.map ρ) (captured.map ρ)), H)
    | _ => none
  | .makeSlice t l c => (makeSliceOp P t (ρ l) (ρ c) H).map fun (v, H') => (.val v, H')
  | .slice t x lo hi mx => (sliceOp P t (ρ x) (lo.map ρ) (hi.map ρ) (mx.map ρ) H).map fun v => (.val v, H)
  | .fieldAddr s x f => (fieldAddrOp P s (ρ x) f).map fun v => (.val v, H)
  | .field s x f => (fieldOp P s (ρ x) f).map fun v => (.val v, H)
  | .indexAddr t x i => (indexAddrOp P t (ρ x) (ρ i)).map fun v => (.val v, H)
  | .index t x i => (indexOp P t (ρ x) (ρ i)).map fun v => (.val v, H)
  | .extract x i => (extractOp (ρ x) i).map fun v => (.val v, H)
  | .call c => callOp X P ρ c H
  | _ => none

end Go.Big
