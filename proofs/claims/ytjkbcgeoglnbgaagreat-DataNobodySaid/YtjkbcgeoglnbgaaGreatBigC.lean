/-
  What the heap's own operations do to the relation: a load, a store, a new block, an append at the end of a block with spare room.
-/
import Derived.Test.YtjkbcgeoglnbgaaGreatBigB
import Derived.Laws.IdiomCopy
import Derived.Laws.Entries
set_option linter.unusedVariables false
namespace Go.Big

section
variable {P : Program}

theorem run_isAgg' {t : TypeId} {d : Bool} (h : isAggOf P t = some d) (w : World) : (isAgg t).run P w = .ok d w := by
  unfold isAggOf at h
  unfold isAgg
  split at h <;> first
    | (rename_i hu; simp only [Option.some.injEq] at h; subst h; simp [run_underlying hu])
    | (rename_i d' h1 h2 hu; simp only [Option.some.injEq] at h; subst h; simp only [Sem.run_bind, run_underlying hu, Result.andThen_ok]; cases d' <;> first | rfl | (exact absurd hu (by simpa using h1 _)) | (exact absurd hu (by simpa using h2 _ _)))
    | (cases h)
theorem run_typeInfo' {t : TypeId} {i : TypeInfo} (h : P.info? t = some i) (w : World) : (typeInfo t).run P w = .ok i w := by simp [typeInfo, h]
theorem run_sizeOf' {t : TypeId} {i : TypeInfo} (h : P.info? t = some i) (w : World) : (sizeOf t).run P w = .ok i.size w := by simp [sizeOf, run_typeInfo' h]
theorem run_zeroValue' {t : TypeId} {i : TypeInfo} {z : Value} (h : P.info? t = some i) (hz : i.zero = some z) (w : World) : (zeroValue t).run P w = .ok z w := by
  simp [zeroValue, run_typeInfo' h, hz]

theorem addr_add (b o n : Nat) : (⟨b, o, none⟩ : Addr).add n = ⟨b, o + n, none⟩ := by unfold Addr.add; split <;> simp_all

/-- a block's cells, one by one -/
theorem cell_of_heap {w : World} {c o : Nat} {cs : Array Value} {e : TypeId} {fz : Nat × Nat} (h : w.heap[c]? = some (.cells cs e fz)) : w.cell? ⟨c, o, none⟩ = cs[o]? := by
  simp [World.cell?, h]

theorem Rel.loadN {φ : Phi} {H : AHeap} {w : World} (r : Rel φ H w) {b o n c K : Nat} {l : List Value} (h : H.loadN b o n = some l) (hb : φ b = some (c, K)) :
    ∃ l', l'.length = n ∧ VRels φ l l' ∧ ∀ j v, l'[j]? = some v → w.cell? ⟨c, o + j, none⟩ = some v := by
  unfold AHeap.loadN at h
  split at h
  · rename_i x hx
    split at h
    · rename_i hle
      cases h
      obtain ⟨cs, e, fz, h1, h2, h3, h4, h5, h6⟩ := (r.blk b x c K hx hb).out
      refine ⟨(cs.toList.drop o).take n, by simp; omega, ?_, ?_⟩
      · refine VRels.of_get (by simp; omega) fun i v hi => ?_
        have hi' : i < n := by
          have := (List.getElem?_eq_some_iff.1 hi).1
          simp at this; omega
        rw [List.getElem?_take_of_lt hi', List.getElem?_drop] at hi
        obtain ⟨v', e1, e2⟩ := h5 _ _ hi
        exact ⟨v', by rw [List.getElem?_take_of_lt hi', List.getElem?_drop]; simpa using e1, e2⟩
      · intro j v hj
        have hj' : j < n := by
          have := (List.getElem?_eq_some_iff.1 hj).1
          simp at this; omega
        rw [List.getElem?_take_of_lt hj', List.getElem?_drop] at hj
        rw [cell_of_heap h1]
        simpa using hj
    · cases h
  · cases h

theorem Rel.load1 {φ : Phi} {H : AHeap} {w : World} (r : Rel φ H w) {b o c K : Nat} {v : Value} (h : H.load1 b o = some v) (hb : φ b = some (c, K)) :
    ∃ v', VRel φ v v' ∧ w.cell? ⟨c, o, none⟩ = some v' := by
  unfold AHeap.load1 at h
  split at h
  · rename_i x hx
    obtain ⟨cs, e, fz, h1, h2, h3, h4, h5, h6⟩ := (r.blk b x c K hx hb).out
    obtain ⟨v', e1, e2⟩ := h5 _ _ h
    exact ⟨v', e2, by rw [cell_of_heap h1]; exact e1⟩
  · cases h

theorem run_loadCells' {w : World} {c o : Nat} {l' : List Value} {n : Nat} (hn : l'.length = n) (h : ∀ j v, l'[j]? = some v → w.cell? ⟨c, o + j, none⟩ = some v) :
    (loadCells ⟨c, o, none⟩ n).run P w = .ok l'.toArray w := by
  subst hn
  exact run_loadCells_list w ⟨c, o, none⟩ l' fun j v hj => by rw [addr_add]; exact h j v hj

theorem sim_load {φ : Phi} {H : AHeap} {w : World} (r : Rel φ H w) {t : TypeId} {a a' v : Value} (h : loadOp P H t a = some v) (ha : VRel φ a a') :
    ∃ v', (Instr.loadAt t a').run P w = .ok v' w ∧ VRel φ v v' := by
  unfold loadOp at h
  split at h
  · rename_i b o
    cases ha with
    | ptr o hb =>
    rename_i c K
    split at h
    · rename_i i hg hi
      simp only [Option.map_eq_some_iff] at h
      obtain ⟨l, hl, rfl⟩ := h
      obtain ⟨l', e1, e2, e3⟩ := r.loadN hl hb
      refine ⟨.agg l'.toArray, ?_, VRel.of_agg e2⟩
      simp [Instr.loadAt, Instr.sureAddr, loadVar, run_isAgg' hg, run_sizeOf' hi, run_loadCells' e1 e3]
    · rename_i hg
      obtain ⟨v', e1, e2⟩ := r.load1 h hb
      refine ⟨v', ?_, e1⟩
      simp [Instr.loadAt, Instr.sureAddr, loadVar, run_isAgg' hg, e2]
    · cases h
  · cases h

/-! stores -/

theorem splice_length {cells vs : List Value} {o : Nat} (h : o + vs.length ≤ cells.length) : (splice cells o vs).length = cells.length := by
  simp [splice]; omega
theorem splice_get {cells vs : List Value} {o : Nat} (h : o + vs.length ≤ cells.length) (i : Nat) :
    (splice cells o vs)[i]? = if o ≤ i ∧ i < o + vs.length then vs[i - o]? else cells[i]? := by
  unfold splice
  by_cases h1 : i < o
  · rw [List.getElem?_append_left (by simp; omega), List.getElem?_take_of_lt h1, if_neg (by omega)]
  · rw [List.getElem?_append_right (by simp; omega)]
    simp only [List.length_take]
    rw [Nat.min_eq_left (by omega)]
    by_cases h2 : i < o + vs.length
    · rw [List.getElem?_append_left (by omega), if_pos (by omega)]
    · rw [List.getElem?_append_right (by omega), List.getElem?_drop, if_neg (by omega)]
      congr 1; omega

theorem heap_setCell (w : World) (c o : Nat) (v : Value) (k : Nat) :
    (w.setCell ⟨c, o, none⟩ v).heap[k]? = if k = c then (w.heap[c]?).map (fun | .cells cs e fz => .cells (cs.setIfInBounds o v) e fz | x => x) else w.heap[k]? := by
  simp only [World.setCell, Array.getElem?_modify]
  by_cases h : k = c
  · subst h; rw [if_pos rfl, if_pos rfl]
    cases w.heap[k]? with
    | none => rfl
    | some x => cases x <;> rfl
  · rw [if_neg (Ne.symm h), if_neg h]

theorem setCells_out : ∀ (vs : List Value) (o : Nat) (w : World) (c : Nat) (cs : Array Value) (e : TypeId) (fz : Nat × Nat), w.heap[c]? = some (.cells cs e fz) → o + vs.length ≤ cs.size →
    (∃ cs', (w.setCells c o vs).heap[c]? = some (.cells cs' e fz) ∧ cs'.toList = splice cs.toList o vs) ∧ (∀ k, k ≠ c → (w.setCells c o vs).heap[k]? = w.heap[k]?) ∧
      (w.setCells c o vs).heap.size = w.heap.size ∧ (w.setCells c o vs).os = w.os ∧ (w.setCells c o vs).tape = w.tape ∧ (w.setCells c o vs).output = w.output
  | [], o, w, c, cs, e, fz, h, _ => ⟨⟨cs, h, by simp [splice]⟩, fun _ _ => rfl, rfl, rfl, rfl, rfl⟩
  | v :: r, o, w, c, cs, e, fz, h, hle => by
    simp only [List.length_cons] at hle
    have h1 : (w.setCell ⟨c, o, none⟩ v).heap[c]? = some (.cells (cs.setIfInBounds o v) e fz) := by rw [heap_setCell, if_pos rfl, h]; rfl
    obtain ⟨⟨cs', g1, g2⟩, g3, g4, g5, g6, g7⟩ := setCells_out r (o + 1) (w.setCell ⟨c, o, none⟩ v) c _ e fz h1 (by simp; omega)
    refine ⟨⟨cs', g1, ?_⟩, fun k hk => by rw [World.setCells, g3 k hk, heap_setCell, if_neg hk], by rw [World.setCells, g4]; simp [World.setCell], g5, g6, g7⟩
    rw [g2]
    simp only [Array.toList_setIfInBounds]
    apply List.ext_getElem?
    intro i
    rw [splice_get (by simp; omega), splice_get (by simp; omega)]
    by_cases hi : i = o
    · subst hi
      rw [if_neg (by omega), if_pos (by simp), List.getElem?_set_self (by simp; omega)]; simp
    · rw [List.getElem?_set_ne (Ne.symm hi)]
      by_cases h2 : o + 1 ≤ i ∧ i < o + 1 + r.length
      · rw [if_pos h2, if_pos (by simp; omega), show i - o = (i - (o + 1)) + 1 by omega]; simp
      · rw [if_neg h2, if_neg (by simp; omega)]

/-- the world behind a store of cells into one block -/
structure Wrote (w w' : World) (c : Nat) : Prop where
  other : ∀ k, k ≠ c → w'.heap[k]? = w.heap[k]?
  size : w'.heap.size = w.heap.size
  os : w'.os = w.os
  tape : w'.tape = w.tape
  output : w'.output = w.output

theorem run_store_blk {w : World} {c o : Nat} {cs : Array Value} {e : TypeId} {fz : Nat × Nat} {vs : List Value} (h : w.heap[c]? = some (.cells cs e fz)) (hle : o + vs.length ≤ cs.size)
    (hf : ∀ j, j < cs.size → ¬ (fz.1 ≤ j ∧ j < fz.2)) (h1 : ∀ v ∈ vs, v.oneCell' = true) :
    ∃ w' cs', (storeCells ⟨c, o, none⟩ vs).run P w = .ok () w' ∧ w'.heap[c]? = some (.cells cs' e fz) ∧ cs'.toList = splice cs.toList o vs ∧ Wrote w w' c := by
  obtain ⟨⟨cs', g1, g2⟩, g3, g4, g5, g6, g7⟩ := setCells_out vs o w c cs e fz h hle
  refine ⟨w.setCells c o vs, cs', ?_, g1, g2, ⟨g3, g4, g5, g6, g7⟩⟩
  have := run_storeCells_cells (P := P) c o vs 0 w (fun j hj => by rw [cell_of_heap h]; simp; omega)
    (fun j hj => by
      have := hf (o + 0 + j) (by omega)
      simp only [World.frozen?, h]
      simpa using this) h1
  simpa using this

/-- A block of the relation is given other cells, where the world's block has got them. -/
theorem Rel.write {φ : Phi} {H : AHeap} {w w' : World} (r : Rel φ H w) {b c K : Nat} {x : Blk} {cells : List Value} (hx : H.get b = some x) (hb : φ b = some (c, K)) (hev : b % 2 = 0) (hro : x.ro = false)
    {cs cs' : Array Value} {e : TypeId} {fz : Nat × Nat} (h : w.heap[c]? = some (.cells cs e fz)) (h' : w'.heap[c]? = some (.cells cs' e fz)) (hsz : cs'.size = cs.size) (hlen : cells.length = x.cells.length)
    (hr : ∀ (i : Nat) (v : Value), cells[i]? = some v → ∃ v', cs'[i]? = some v' ∧ VRel φ v v') (ho : Wrote w w' c) :
    Rel φ (H.set b (some { x with cells })) w' ∧ Ext φ H w φ (H.set b (some { x with cells })) w' := by
  constructor
  · constructor
    · intro b2 x2 c2 K2 hg hφ
      by_cases hbb : b2 = b
      · subst hbb
        rw [AHeap.get_set_same _ _ hev] at hg
        cases hg
        rw [hb] at hφ; cases hφ
        obtain ⟨cs0, e0, fz0, h1, h2, h3, h4, h5, h6⟩ := (r.blk b2 x c K hx hb).out
        rw [h] at h1; cases h1
        exact ⟨cs', e, fz, h', by simp; omega, fun hg => by rw [hsz, h3 hg]; simp [hlen], fun e0 hg => by rw [hsz, h4 e0 hg], hr, fun hz => by rw [hsz]; exact h6 hz⟩
      · rw [AHeap.get_set_ne _ _ hev hbb] at hg
        have hc : c2 ≠ c := fun e => by subst e; exact hbb (r.inj _ _ _ _ _ _ _ hg hx hφ hb)
        obtain ⟨cs0, e0, fz0, h1, hrest⟩ := (r.blk b2 x2 c2 K2 hg hφ).out
        exact ⟨cs0, e0, fz0, by rw [ho.other _ hc, h1], hrest⟩
    · intro b1 b2 x1 x2 c0 K1 K2 g1 g2 p1 p2
      have conv : ∀ q y, (H.set b (some { x with cells })).get q = some y → ∃ y', H.get q = some y' := fun q y hy => by
        by_cases hq : q = b
        · exact ⟨x, hq ▸ hx⟩
        · rw [AHeap.get_set_ne _ _ hev hq] at hy; exact ⟨y, hy⟩
      obtain ⟨y1, k1⟩ := conv _ _ g1
      obtain ⟨y2, k2⟩ := conv _ _ g2
      exact r.inj _ _ _ _ _ _ _ k1 k2 p1 p2
    · exact r.fresh
    · exact r.old
    · intro k hk
      have hne : 2 * k ≠ b := fun e => by have := r.absent k hk; rw [e, hx] at this; cases this
      rw [AHeap.get_set_ne _ _ hev hne]; exact r.absent k hk
  · refine ⟨fun _ _ h => h, Nat.le_refl _, fun b h h' => absurd h h', ?_, ?_, ?_, (fun b c K h h' => by rw [h] at h'; cases h'), by rw [ho.size]; exact Nat.le_refl _, ho.os, ho.tape, ho.output⟩
    · intro c2 hc2 hro2
      have hne : c2 ≠ c := fun e => by subst e; have := hro2 b x K hx hb; rw [hro] at this; cases this
      refine ⟨ho.other _ hne, fun b2 x2 K2 g p => ?_⟩
      by_cases hbb : b2 = b
      · subst hbb; rw [hb] at p; cases p; exact absurd rfl hne
      · rw [AHeap.get_set_ne _ _ hev hbb] at g; exact hro2 _ _ _ g p
    · intro b2 x2 g p
      have hbb : b2 ≠ b := fun e => by subst e; rw [hb] at p; cases p
      exact ⟨by rw [AHeap.get_set_ne _ _ hev hbb]; exact g, p⟩
    · intro b2 g g'
      by_cases hbb : b2 = b
      · subst hbb; rw [hx] at g; cases g
      · rw [AHeap.get_set_ne _ _ hev hbb] at g'; exact absurd g g'

theorem sim_storeCells {φ : Phi} {H H' : AHeap} {w : World} (r : Rel φ H w) {b o c K : Nat} {vs vs' : List Value} (h : H.store b o vs = some H') (hb : φ b = some (c, K)) (hv : VRels φ vs vs') :
    ∃ w', (storeCells ⟨c, o, none⟩ vs').run P w = .ok () w' ∧ Rel φ H' w' ∧ Ext φ H w φ H' w' := by
  unfold AHeap.store at h
  split at h
  · rename_i x hx
    split at h
    · rename_i hc
      obtain ⟨hro, hev, hle, h1⟩ := hc
      cases h
      obtain ⟨cs, e, fz, g1, g2, g3, g4, g5, g6⟩ := (r.blk b x c K hx hb).out
      have hl := hv.length
      obtain ⟨w', cs', k1, k2, k3, k4⟩ := run_store_blk (P := P) (o := o) (vs := vs') g1 (by omega) (g6 hro) (hv.oneCells h1)
      have hsz : cs'.size = cs.size := by
        have := congrArg List.length k3
        rw [splice_length (by simp; omega)] at this
        simpa using this
      obtain ⟨p1, p2⟩ := r.write (cells := splice x.cells o vs) hx hb hev hro g1 k2 hsz (splice_length hle) (fun i v hi => by
        rw [splice_get hle] at hi
        have e0 : cs'[i]? = (splice cs.toList o vs')[i]? := by rw [← k3]; simp
        rw [splice_get (by simp; omega)] at e0
        rw [e0]
        by_cases hin : o ≤ i ∧ i < o + vs.length
        · rw [if_pos hin] at hi
          rw [if_pos (by omega)]
          exact hv.get _ _ hi
        · rw [if_neg hin] at hi
          rw [if_neg (by omega)]
          simpa using g5 i v hi) k4
      exact ⟨w', k1, p1, p2⟩
    · cases h
  · cases h

theorem sim_store {φ : Phi} {H H' : AHeap} {w : World} (r : Rel φ H w) {t : TypeId} {a a' v v' : Value} (h : storeOp P H t a v = some H') (ha : VRel φ a a') (hv : VRel φ v v') :
    ∃ w', (Instr.storeAt t a' v').run P w = .ok () w' ∧ Rel φ H' w' ∧ Ext φ H w φ H' w' := by
  unfold storeOp at h
  split at h
  · rename_i b o i hi
    cases ha with
    | ptr o hb =>
    split at h
    · rename_i hs
      obtain ⟨w', k1, k2, k3⟩ := sim_storeCells (P := P) r h hb hv.cells
      have hl := hv.cells.length
      simp only [Array.length_toList] at hl
      refine ⟨w', ?_, k2, k3⟩
      simp only [Instr.storeAt, Instr.sureAddr, storeVar, Sem.run_bind, Sem.run_pure, Result.andThen_ok, run_sizeOf' hi]
      rw [if_neg (by omega)]
      simpa using k1
    · cases h
  · cases h

/-! new blocks -/

def Phi.put (φ : Phi) (b c K : Nat) : Phi := fun q => if q = b then some (c, K) else φ q

theorem Rel.fresh' {φ : Phi} {H : AHeap} {w : World} (r : Rel φ H w) : φ H.fresh = none := r.fresh _ (Nat.le_refl _)
theorem Phi.le_put {φ : Phi} {b c K : Nat} (h : φ b = none) : φ.le (φ.put b c K) := by
  intro q x hq
  unfold Phi.put
  rw [if_neg (fun e => by subst e; rw [h] at hq; cases hq)]
  exact hq
theorem Phi.put_same (φ : Phi) (b c K : Nat) : φ.put b c K b = some (c, K) := by simp [Phi.put]

/-- A new block of the world, named by the next abstract number. 'H0': the heap behind a block that may have gone. -/
theorem Rel.new {φ : Phi} {H : AHeap} {w w' : World} (r : Rel φ H w) {x : Blk} {c K : Nat} {cs : Array Value} {e : TypeId} {fz : Nat × Nat} (hc : c = w.heap.size) (hro : x.ro = false)
    (hheap : w'.heap = w.heap.push (.cells cs e fz)) (hos : w'.os = w.os) (htape : w'.tape = w.tape) (hout : w'.output = w.output)
    (hl : x.cells.length ≤ cs.size) (hg0 : x.grow = none → cs.size = x.cells.length) (hg1 : ∀ e, x.grow = some e → cs.size = K * e)
    (hv : ∀ (i : Nat) (v : Value), x.cells[i]? = some v → ∃ v', cs[i]? = some v' ∧ VRel φ v v') (hf : ∀ o, o < cs.size → ¬ (fz.1 ≤ o ∧ o < fz.2)) :
    Rel (φ.put H.fresh c K) (H.alloc x) w' ∧ Ext φ H w (φ.put H.fresh c K) (H.alloc x) w' := by
  have hfr := r.fresh'
  have hno : H.get H.fresh = none := r.absent _ (Nat.le_refl _)
  have hnew : w'.heap[c]? = some (.cells cs e fz) := by rw [hheap, hc]; simp
  have hold : ∀ k, k < w.heap.size → w'.heap[k]? = w.heap[k]? := fun k hk => by
    rw [hheap, Array.getElem?_push, if_neg (by omega)]
  have hlt : ∀ b y c2 K2, H.get b = some y → φ b = some (c2, K2) → c2 < w.heap.size := fun b y c2 K2 g p => by
    obtain ⟨cs0, e0, fz0, h1, _⟩ := (r.blk b y c2 K2 g p).out
    exact (Array.getElem?_eq_some_iff.1 h1).1
  constructor
  · constructor
    · intro b2 x2 c2 K2 hg hφ
      by_cases hbb : b2 = H.fresh
      · subst hbb
        rw [AHeap.get_alloc_same] at hg; cases hg
        rw [Phi.put_same] at hφ; cases hφ
        refine ⟨cs, e, fz, hnew, hl, hg0, hg1, fun i v hi => ?_, fun _ => hf⟩
        obtain ⟨v', e1, e2⟩ := hv i v hi
        exact ⟨v', e1, e2.mono (Phi.le_put hfr)⟩
      · rw [AHeap.get_alloc_ne _ _ hbb] at hg
        unfold Phi.put at hφ; rw [if_neg hbb] at hφ
        obtain ⟨cs0, e0, fz0, h1, h2, h3, h4, h5, h6⟩ := (r.blk b2 x2 c2 K2 hg hφ).out
        refine ⟨cs0, e0, fz0, by rw [hold _ (hlt _ _ _ _ hg hφ), h1], h2, h3, h4, fun i v hi => ?_, h6⟩
        obtain ⟨v', e1, e2⟩ := h5 i v hi
        exact ⟨v', e1, e2.mono (Phi.le_put hfr)⟩
    · intro b1 b2 x1 x2 c0 K1 K2 g1 g2 p1 p2
      by_cases h1 : b1 = H.fresh
      · by_cases h2 : b2 = H.fresh
        · rw [h1, h2]
        · rw [AHeap.get_alloc_ne _ _ h2] at g2
          subst h1
          rw [Phi.put_same] at p1; cases p1
          unfold Phi.put at p2; rw [if_neg h2] at p2
          have := hlt _ _ _ _ g2 p2
          omega
      · rw [AHeap.get_alloc_ne _ _ h1] at g1
        unfold Phi.put at p1; rw [if_neg h1] at p1
        by_cases h2 : b2 = H.fresh
        · subst h2
          rw [Phi.put_same] at p2; cases p2
          have := hlt _ _ _ _ g1 p1
          omega
        · rw [AHeap.get_alloc_ne _ _ h2] at g2
          unfold Phi.put at p2; rw [if_neg h2] at p2
          exact r.inj _ _ _ _ _ _ _ g1 g2 p1 p2
    · intro k hk
      unfold Phi.put
      simp only [AHeap.next_alloc] at hk
      rw [if_neg (by unfold AHeap.fresh; omega)]
      exact r.fresh k (by omega)
    · intro b
      unfold Phi.put
      rw [if_neg (by unfold AHeap.fresh; omega)]
      exact r.old b
    · intro k hk
      simp only [AHeap.next_alloc] at hk
      rw [AHeap.get_alloc_ne _ _ (by unfold AHeap.fresh; omega)]
      exact r.absent k (by omega)
  · refine ⟨Phi.le_put hfr, by simp, ?_, ?_, ?_, ?_, (fun b c2 K2 h h' => by
      by_cases hbb : b = H.fresh
      · subst hbb; rw [Phi.put_same] at h'; cases h'; exact .inl (by omega)
      · unfold Phi.put at h'; rw [if_neg hbb, h] at h'; cases h'), by rw [hheap]; simp, hos, htape, hout⟩
    · intro b h h'
      have : b = H.fresh := by
        apply Classical.byContradiction; intro hne
        apply h'; unfold Phi.put; rw [if_neg hne]; exact h
      exact ⟨H.next, this, Nat.le_refl _, by simp⟩
    · intro c2 hc2 hro2
      refine ⟨hold _ hc2, fun b2 x2 K2 g p => ?_⟩
      by_cases hbb : b2 = H.fresh
      · subst hbb; rw [Phi.put_same] at p; cases p; omega
      · rw [AHeap.get_alloc_ne _ _ hbb] at g
        unfold Phi.put at p; rw [if_neg hbb] at p
        exact hro2 _ _ _ g p
    · intro b2 x2 g p
      have hbb : b2 ≠ H.fresh := fun e => by subst e; rw [hno] at g; cases g
      exact ⟨by rw [AHeap.get_alloc_ne _ _ hbb]; exact g, by unfold Phi.put; rw [if_neg hbb]; exact p⟩
    · intro b2 g g'
      have : b2 = H.fresh := by
        apply Classical.byContradiction; intro hne
        apply g'; rw [AHeap.get_alloc_ne _ _ hne]; exact g
      exact ⟨by rw [this]; exact hfr, H.next, this, Nat.le_refl _, by simp⟩
end
end Go.Big
