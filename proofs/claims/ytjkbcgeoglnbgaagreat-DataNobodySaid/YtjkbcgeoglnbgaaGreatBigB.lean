/-
  How an abstract heap stands for a world: values alike up to the blocks' numbers, and the relation that a run keeps.
-/
import Derived.Test.YtjkbcgeoglnbgaaGreatBigA
import Derived.Laws.World
import Derived.Laws.Sem
set_option linter.unusedVariables false
namespace Go.Big

/-- Where an abstract block lies: its number in the world, and how many elements it has room for (of a block with spare room). -/
abbrev Phi := Nat → Option (Nat × Nat)

inductive VRel (φ : Phi) : Value → Value → Prop
  | bool (b : Bool) : VRel φ (.bool b) (.bool b)
  | int (k : IntKind) (n : Int) : VRel φ (.int k n) (.int k n)
  | float (k : FloatKind) (n : Nat) : VRel φ (.float k n) (.float k n)
  | complex (k : FloatKind) (a b : Nat) : VRel φ (.complex k a b) (.complex k a b)
  | string (s : ByteArray) : VRel φ (.string s) (.string s)
  | nilPtr : VRel φ (.pointer none) (.pointer none)
  | ptr {b c K : Nat} (o : Nat) (h : φ b = some (c, K)) : VRel φ (.pointer (some ⟨b, o, none⟩)) (.pointer (some ⟨c, o, none⟩))
  | nilSlice (l c : Nat) : VRel φ (.slice none l c) (.slice none l c)
  | slice {b c K : Nat} (o l cap : Nat) (h : φ b = some (c, K)) (hc : cap ≠ capG) : VRel φ (.slice (some ⟨b, o, none⟩) l cap) (.slice (some ⟨c, o, none⟩) l cap)
  | sliceG {b c K : Nat} (o o' l cap : Nat) (h : φ b = some (c, K)) (hl : l ≤ cap) (ho : o' = o ∨ (l = 0 ∧ cap = 0 ∧ o ≠ 0)) (hk : o = 0 → cap = K) :
      VRel φ (.slice (some ⟨b, o, none⟩) l capG) (.slice (some ⟨c, o', none⟩) l cap)
  | nilMap : VRel φ (.map none) (.map none)
  | map {b c K : Nat} (h : φ b = some (c, K)) : VRel φ (.map (some b)) (.map (some c))
  | yield {b c K : Nat} (h : φ b = some (c, K)) : VRel φ (.func (.yield b) #[] #[]) (.func (.yield c) #[] #[])
  | func (fn : Fn) {a a' b b' : Array Value} (hy : ∀ l, fn ≠ .yield l) (ha : a.size = a'.size) (hb : b.size = b'.size)
      (hxa : ∀ (i : Nat) (h : i < a.size) (h' : i < a'.size), VRel φ a[i] a'[i]) (hxb : ∀ (i : Nat) (h : i < b.size) (h' : i < b'.size), VRel φ b[i] b'[i]) :
      VRel φ (.func fn a b) (.func fn a' b')
  | nilFunc : VRel φ .nilFunc .nilFunc
  | iface (t : TypeId) {v v' : Value} (h : VRel φ v v') : VRel φ (.iface t v) (.iface t v')
  | nilIface : VRel φ .nilIface .nilIface
  | agg {a a' : Array Value} (ha : a.size = a'.size) (hx : ∀ (i : Nat) (h : i < a.size) (h' : i < a'.size), VRel φ a[i] a'[i]) : VRel φ (.agg a) (.agg a')
  | any {v' : Value} (h : v'.oneCell' = true) : VRel φ (.chan none) v'
  | tuple {a a' : Array Value} (ha : a.size = a'.size) (hx : ∀ (i : Nat) (h : i < a.size) (h' : i < a'.size), VRel φ a[i] a'[i]) : VRel φ (.tuple a) (.tuple a')

def Phi.le (φ ψ : Phi) : Prop := ∀ b x, φ b = some x → ψ b = some x

theorem VRel.mono {φ ψ : Phi} (h : φ.le ψ) {v v' : Value} (r : VRel φ v v') : VRel ψ v v' := by
  induction r with
  | bool b => exact .bool b
  | int k n => exact .int k n
  | float k n => exact .float k n
  | complex k a b => exact .complex k a b
  | string s => exact .string s
  | nilPtr => exact .nilPtr
  | ptr o e => exact .ptr o (h _ _ e)
  | nilSlice l c => exact .nilSlice l c
  | slice o l c e hc => exact .slice o l c (h _ _ e) hc
  | sliceG o o' l c e hl ho hk => exact .sliceG o o' l c (h _ _ e) hl ho hk
  | nilMap => exact .nilMap
  | map e => exact .map (h _ _ e)
  | yield e => exact .yield (h _ _ e)
  | func fn hy ha hb _ _ iha ihb => exact .func fn hy ha hb iha ihb
  | nilFunc => exact .nilFunc
  | iface t _ ih => exact .iface t ih
  | nilIface => exact .nilIface
  | agg ha _ ih => exact .agg ha ih
  | tuple ha _ ih => exact .tuple ha ih
  | any h => exact .any h

/-- Two lists of values alike. -/
inductive VRels (φ : Phi) : List Value → List Value → Prop
  | nil : VRels φ [] []
  | cons {v v' : Value} {l l' : List Value} (h : VRel φ v v') (t : VRels φ l l') : VRels φ (v :: l) (v' :: l')

theorem VRels.mono {φ ψ : Phi} (h : φ.le ψ) {l l' : List Value} (r : VRels φ l l') : VRels ψ l l' := by
  induction r with
  | nil => exact .nil
  | cons a _ ih => exact .cons (a.mono h) ih
theorem VRels.length {φ : Phi} {l l' : List Value} (r : VRels φ l l') : l.length = l'.length := by
  induction r with
  | nil => rfl
  | cons _ _ ih => simp [ih]
theorem VRels.get {φ : Phi} {l l' : List Value} (r : VRels φ l l') : ∀ (i : Nat) (v : Value), l[i]? = some v → ∃ v', l'[i]? = some v' ∧ VRel φ v v' := by
  induction r with
  | nil => intro i v h; simp at h
  | cons a _ ih =>
    intro i v h
    cases i with
    | zero => simp at h; subst h; exact ⟨_, by simp, a⟩
    | succ i => simpa using ih i v (by simpa using h)
theorem VRels.of_get {φ : Phi} : ∀ {l l' : List Value}, l.length = l'.length → (∀ (i : Nat) (v : Value), l[i]? = some v → ∃ v', l'[i]? = some v' ∧ VRel φ v v') → VRels φ l l'
  | [], [], _, _ => .nil
  | [], _ :: _, h, _ => by simp at h
  | _ :: _, [], h, _ => by simp at h
  | a :: l, b :: l', h, g => by
    obtain ⟨v', e, r⟩ := g 0 a (by simp)
    simp at e; subst e
    exact .cons r (VRels.of_get (by simpa using h) fun i v hi => by simpa using g (i + 1) v (by simpa using hi))
theorem VRels.append {φ : Phi} {a a' b b' : List Value} (h : VRels φ a a') (k : VRels φ b b') : VRels φ (a ++ b) (a' ++ b') := by
  induction h with
  | nil => exact k
  | cons x _ ih => exact .cons x ih
theorem VRels.take {φ : Phi} (n : Nat) {a a' : List Value} (h : VRels φ a a') : VRels φ (a.take n) (a'.take n) := by
  induction h generalizing n with
  | nil => simpa using VRels.nil
  | cons x _ ih => cases n with
    | zero => exact .nil
    | succ n => exact .cons x (ih n)
theorem VRels.drop {φ : Phi} (n : Nat) {a a' : List Value} (h : VRels φ a a') : VRels φ (a.drop n) (a'.drop n) := by
  induction h generalizing n with
  | nil => simpa using VRels.nil
  | cons x t ih => cases n with
    | zero => exact .cons x t
    | succ n => exact ih n
theorem VRels.replicate {φ : Phi} (n : Nat) {v v' : Value} (h : VRel φ v v') : VRels φ (List.replicate n v) (List.replicate n v') := by
  induction n with
  | zero => exact .nil
  | succ n ih => rw [List.replicate_succ, List.replicate_succ]; exact .cons h ih

theorem VRel.of_agg {φ : Phi} {l l' : List Value} (h : VRels φ l l') : VRel φ (.agg l.toArray) (.agg l'.toArray) := by
  refine .agg (by simpa using h.length) fun i h1 h2 => ?_
  obtain ⟨v', e, r⟩ := h.get i l[i] (by simp)
  have : l'[i]? = some l'[i] := List.getElem?_eq_getElem (by simpa using h2)
  rw [this] at e
  simpa [← Option.some.inj e] using r
theorem VRel.of_tuple {φ : Phi} {l l' : List Value} (h : VRels φ l l') : VRel φ (.tuple l.toArray) (.tuple l'.toArray) := by
  refine .tuple (by simpa using h.length) fun i h1 h2 => ?_
  obtain ⟨v', e, r⟩ := h.get i l[i] (by simp)
  have : l'[i]? = some l'[i] := List.getElem?_eq_getElem (by simpa using h2)
  rw [this] at e
  simpa [← Option.some.inj e] using r
theorem VRels.of_arr {φ : Phi} {a a' : Array Value} (ha : a.size = a'.size) (hx : ∀ (i : Nat) (h : i < a.size) (h' : i < a'.size), VRel φ a[i] a'[i]) : VRels φ a.toList a'.toList := by
  refine VRels.of_get (by simpa using ha) fun i v hi => ?_
  have h1 : i < a.size := by
    have := (List.getElem?_eq_some_iff.1 hi).1
    simpa using this
  refine ⟨a'[i], by simp [Array.getElem?_eq_getElem (ha ▸ h1)], ?_⟩
  have : a[i] = v := by simpa [Array.getElem?_eq_getElem h1] using hi
  exact this ▸ hx i h1 (ha ▸ h1)
theorem VRel.cells {φ : Phi} {v v' : Value} (h : VRel φ v v') : VRels φ v.cells.toList v'.cells.toList := by
  cases h with
  | agg ha hx => exact VRels.of_arr ha hx
  | bool b => exact .cons (.bool b) .nil
  | int k n => exact .cons (.int k n) .nil
  | float k n => exact .cons (.float k n) .nil
  | complex k a b => exact .cons (.complex k a b) .nil
  | string s => exact .cons (.string s) .nil
  | nilPtr => exact .cons .nilPtr .nil
  | ptr o e => exact .cons (.ptr o e) .nil
  | nilSlice l c => exact .cons (.nilSlice l c) .nil
  | slice o l c e hc => exact .cons (.slice o l c e hc) .nil
  | sliceG o o' l c e hl ho hk => exact .cons (.sliceG o o' l c e hl ho hk) .nil
  | nilMap => exact .cons .nilMap .nil
  | map e => exact .cons (.map e) .nil
  | yield e => exact .cons (.yield e) .nil
  | func fn hy ha hb hxa hxb => exact .cons (.func fn hy ha hb hxa hxb) .nil
  | nilFunc => exact .cons .nilFunc .nil
  | iface t r => exact .cons (.iface t r) .nil
  | nilIface => exact .cons .nilIface .nil
  | tuple ha hx => exact .cons (.tuple ha hx) .nil
  | @any v' h =>
    have : v'.cells.toList = [v'] := by cases v' <;> first | rfl | cases h
    rw [this]
    exact .cons (.any h) .nil
theorem VRel.oneCell {φ : Phi} {v v' : Value} (h : VRel φ v v') : v'.oneCell' = v.oneCell' := by cases h <;> first | rfl | assumption
theorem VRels.oneCells {φ : Phi} {l l' : List Value} (h : VRels φ l l') (hl : l.all (·.oneCell') = true) : ∀ v ∈ l', v.oneCell' = true := by
  induction h with
  | nil => simp
  | cons a _ ih =>
    simp only [List.all_cons, Bool.and_eq_true] at hl
    intro v hv
    cases hv with
    | head => rw [a.oneCell]; exact hl.1
    | tail _ hv => exact ih hl.2 v hv

/-- A block of the world is what an abstract block says. -/
structure BlkRel (φ : Phi) (w : World) (x : Blk) (c K : Nat) : Prop where
  out : ∃ cs elem fz, w.heap[c]? = some (.cells cs elem fz) ∧ x.cells.length ≤ cs.size ∧ (x.grow = none → cs.size = x.cells.length) ∧
    (∀ e, x.grow = some e → cs.size = K * e) ∧ (∀ (i : Nat) (v : Value), x.cells[i]? = some v → ∃ v', cs[i]? = some v' ∧ VRel φ v v') ∧
    (x.ro = false → ∀ o, o < cs.size → ¬ (fz.1 ≤ o ∧ o < fz.2))

/-- The abstract heap stands for the world. -/
structure Rel (φ : Phi) (H : AHeap) (w : World) : Prop where
  blk : ∀ b x c K, H.get b = some x → φ b = some (c, K) → BlkRel φ w x c K
  inj : ∀ b b' x x' c K K', H.get b = some x → H.get b' = some x' → φ b = some (c, K) → φ b' = some (c, K') → b = b'
  fresh : ∀ k, H.next ≤ k → φ (2 * k) = none
  old : ∀ b, φ (2 * b + 1) = some (b, 0)
  absent : ∀ k, H.next ≤ k → H.get (2 * k) = none

/-- What a run does to the relation. -/
structure Ext (φ : Phi) (H : AHeap) (w : World) (φ' : Phi) (H' : AHeap) (w' : World) : Prop where
  mono : φ.le φ'
  next : H.next ≤ H'.next
  newid : ∀ b, φ b = none → φ' b ≠ none → ∃ k, b = 2 * k ∧ H.next ≤ k ∧ k < H'.next
  frame : ∀ c, c < w.heap.size → (∀ b x K, H.get b = some x → φ b = some (c, K) → x.ro = true) →
    w'.heap[c]? = w.heap[c]? ∧ (∀ b x K, H'.get b = some x → φ' b = some (c, K) → x.ro = true)
  unmapped : ∀ b x, H.get b = some x → φ b = none → H'.get b = some x ∧ φ' b = none
  newblk : ∀ b, H.get b = none → H'.get b ≠ none → φ b = none ∧ ∃ k, b = 2 * k ∧ H.next ≤ k ∧ k < H'.next
  newat : ∀ b c K, φ b = none → φ' b = some (c, K) → w.heap.size ≤ c ∨ ∃ b0 x, H.get b0 = some x ∧ φ b0 = some (c, K)
  size : w.heap.size ≤ w'.heap.size
  os : w'.os = w.os
  tape : w'.tape = w.tape
  output : w'.output = w.output

theorem Ext.refl (φ : Phi) (H : AHeap) (w : World) : Ext φ H w φ H w :=
  ⟨fun _ _ h => h, Nat.le_refl _, fun b h h' => absurd h h', fun _ _ h => ⟨rfl, h⟩, fun _ _ h h' => ⟨h, h'⟩, fun b h h' => absurd h h', (fun b c K h h' => by rw [h] at h'; cases h'), Nat.le_refl _, rfl, rfl, rfl⟩

theorem Ext.trans {φ φ' φ'' : Phi} {H H' H'' : AHeap} {w w' w'' : World} (h : Ext φ H w φ' H' w') (k : Ext φ' H' w' φ'' H'' w'') : Ext φ H w φ'' H'' w'' where
  mono b x e := k.mono b x (h.mono b x e)
  next := Nat.le_trans h.next k.next
  newid b e e' := by
    cases hb : φ' b with
    | none => obtain ⟨q, h1, h2, h3⟩ := k.newid b hb e'; exact ⟨q, h1, Nat.le_trans h.next h2, h3⟩
    | some x => obtain ⟨q, h1, h2, h3⟩ := h.newid b e (by simp [hb]); exact ⟨q, h1, h2, Nat.lt_of_lt_of_le h3 k.next⟩
  frame c hc hro := by
    obtain ⟨h1, h2⟩ := h.frame c hc hro
    obtain ⟨h3, h4⟩ := k.frame c (Nat.lt_of_lt_of_le hc h.size) h2
    exact ⟨h3.trans h1, h4⟩
  unmapped b x e e' := by
    obtain ⟨h1, h2⟩ := h.unmapped b x e e'
    exact k.unmapped b x h1 h2
  newblk b e e' := by
    cases hb : H'.get b with
    | none =>
      obtain ⟨h0, q, h1, h2, h3⟩ := k.newblk b hb e'
      refine ⟨?_, q, h1, Nat.le_trans h.next h2, h3⟩
      cases hφ : φ b with
      | none => rfl
      | some y => rw [h.mono b y hφ] at h0; cases h0
    | some x =>
      obtain ⟨h0, q, h1, h2, h3⟩ := h.newblk b e (by simp [hb])
      exact ⟨h0, q, h1, h2, Nat.lt_of_lt_of_le h3 k.next⟩
  newat b c K e e' := by
    cases hb : φ' b with
    | some x => rw [k.mono b x hb] at e'; cases e'; exact h.newat b c K e hb
    | none =>
      rcases k.newat b c K hb e' with h1 | ⟨b0, x, h1, h2⟩
      · exact .inl (Nat.le_trans h.size h1)
      · cases h3 : φ b0 with
        | none => exact h.newat b0 c K h3 h2
        | some y =>
          rw [h.mono b0 y h3] at h2; cases h2
          cases h4 : H.get b0 with
          | some z => exact .inr ⟨b0, z, h4, h3⟩
          | none => rw [(h.newblk b0 h4 (by simp [h1])).1] at h3; cases h3
  size := Nat.le_trans h.size k.size
  os := k.os.trans h.os
  tape := k.tape.trans h.tape
  output := k.output.trans h.output

/-- A draw of the tape. -/
theorem Ext.draw {φ φ' : Phi} {H H' : AHeap} {w w' : World} {n : Nat} (h : Ext φ H { w with drawn := n } φ' H' w') : Ext φ H w φ' H' w' :=
  ⟨h.mono, h.next, h.newid, h.frame, h.unmapped, h.newblk, h.newat, h.size, h.os, h.tape, h.output⟩
theorem Rel.draw {φ : Phi} {H : AHeap} {w : World} (h : Rel φ H w) (n : Nat) : Rel φ H { w with drawn := n } :=
  ⟨fun b x c K e e' => ⟨(h.blk b x c K e e').out⟩, h.inj, h.fresh, h.old, h.absent⟩

end Go.Big
