/-
  Literals, clear, conversions, and the operations that touch no memory.
-/
import Derived.Test.YtjkbcgeoglnbgaaGreatBigF
set_option linter.unusedVariables false
namespace Go.Big
section
variable {P : Program}

theorem fold_splice : ∀ (vs : List Value) (k off : Nat) (cells : Array Value), off + k + vs.length ≤ cells.size →
    ((vs.zipIdx k).foldl (fun cs p => cs.setIfInBounds (off + p.2) p.1) cells).toList = splice cells.toList (off + k) vs
  | [], k, off, cells, _ => by simp [splice]
  | v :: r, k, off, cells, h => by
    simp only [List.length_cons] at h
    rw [List.zipIdx_cons, List.foldl_cons, fold_splice r (k + 1) off _ (by simp; omega)]
    apply List.ext_getElem?
    intro i
    rw [splice_get (by simp; omega), splice_get (by simp; omega)]
    simp only [Array.toList_setIfInBounds]
    by_cases hi : i = off + k
    · subst hi
      rw [if_neg (by omega), if_pos (by simp), List.getElem?_set_self (by simp; omega)]; simp
    · rw [List.getElem?_set_ne (Ne.symm hi)]
      by_cases h2 : off + (k + 1) ≤ i ∧ i < off + (k + 1) + r.length
      · rw [if_pos h2, if_pos (by simp; omega), show i - (off + k) = (i - (off + (k + 1))) + 1 by omega]; simp
      · rw [if_neg h2, if_neg (by simp; omega)]

inductive Parts (φ : Phi) : List (Nat × Value) → List (Nat × Value) → Prop
  | nil : Parts φ [] []
  | cons (i : Nat) {v v' : Value} {l l' : List (Nat × Value)} (h : VRel φ v v') (t : Parts φ l l') : Parts φ ((i, v) :: l) ((i, v') :: l')

theorem VRels.splice {φ : Phi} {a a' b b' : List Value} (o : Nat) (h : VRels φ a a') (k : VRels φ b b') : VRels φ (splice a o b) (splice a' o b') := by
  unfold Go.Big.splice
  rw [k.length]
  exact (h.take o).append (k.append (h.drop _))

theorem sim_fill {φ : Phi} {place : Nat → Option (Nat × Nat)} {l l' : List (Nat × Value)} (hp : Parts φ l l') : ∀ {cells out : List Value} {cells' : Array Value}, VRels φ cells cells'.toList → fillOp place cells l = some out →
    ∃ out', Instr.fill place cells' l' = some out' ∧ VRels φ out out'.toList := by
  induction hp with
  | nil => intro cells out cells' hc h; cases h; exact ⟨cells', rfl, hc⟩
  | @cons i v v' l l' hv _ ih =>
    intro cells out cells' hc h
    simp only [fillOp] at h
    have hlen := hv.cells.length
    have hlc := hc.length
    simp only [Array.length_toList] at hlen hlc
    simp only [Instr.fill]
    split at h
    · cases h
    · rename_i off size hpl
      rw [hpl]
      split at h
      · rename_i hs
        obtain ⟨h1, h2⟩ := hs
        simp only
        rw [if_neg (by simp; omega)]
        refine ih ?_ h
        have : ∀ (v' : Value), off + v'.cells.size ≤ cells'.size → (v'.cells.zipIdx.foldl (fun cs (x : Value × Nat) => cs.setIfInBounds (off + x.2) x.1) cells').toList = splice cells'.toList off v'.cells.toList := fun v' hle => by
          have := fold_splice v'.cells.toList 0 off cells' (by simpa using hle)
          rw [← Array.foldl_toList, Array.toList_zipIdx]
          simpa using this
        have h3 := this v' (by omega)
        rw [h3]
        exact hc.splice off hv.cells
      · cases h

theorem run_mapM_fields (w : World) : ∀ (fs : List Field), fs.all (fun f => (P.info? f.type).isSome) = true →
    (fs.mapM fun f => (do pure (f.offset, ← sizeOf f.type) : Sem (Nat × Nat))).run P w = .ok (fs.map fun f => (f.offset, P.cellsOf f.type)) w
  | [], _ => rfl
  | f :: fs, h => by
    simp only [List.all_cons, Bool.and_eq_true] at h
    obtain ⟨i, hi⟩ := Option.isSome_iff_exists.1 h.1
    simp only [List.mapM_cons, Sem.run_bind, run_sizeOf' hi, Result.andThen_ok, Sem.run_pure, run_mapM_fields w fs h.2, List.map_cons, Program.cellsOf, hi, Option.map_some, Option.getD_some]

theorem sim_build {φ : Phi} {H : AHeap} {w : World} (r : Rel φ H w) {t : TypeId} {ps : List (Nat × Value)} {ps' : Array (Nat × Value)} {v : Value} (h : buildOp P t ps = some v) (hp : Parts φ ps ps'.toList) :
    ∃ v', (Instr.build t ps').run P w = .ok v' w ∧ VRel φ v v' := by
  unfold buildOp at h
  split at h
  · rename_i fs z hu hz
    obtain ⟨i, zv, hi, hzv, hzs, rfl⟩ := zeroOf_spec hz
    split at h
    · cases h
    · rename_i hall
      simp only [Bool.not_eq_false] at hall
      simp only [Option.map_eq_some_iff] at h
      obtain ⟨out, ho, rfl⟩ := h
      have hpl : placeOf P fs = fun i => ((fs.toList.map fun f => (f.offset, P.cellsOf f.type)).toArray)[i]? := by
        funext i
        unfold placeOf
        simp only [List.getElem?_toArray, List.getElem?_map, Array.getElem?_toList]
        cases hf : fs[i]? with
        | none => rfl
        | some f =>
          have : f ∈ fs.toList := by
            have := Array.mem_of_getElem? hf
            simpa using this
          obtain ⟨d, hd⟩ := Option.isSome_iff_exists.1 (List.all_eq_true.1 hall f this)
          simp [Program.cellsOf, hd]
      rw [hpl] at ho
      obtain ⟨out', h1, h2⟩ := sim_fill hp (zeroOf_flat hz φ) ho
      refine ⟨.agg out', ?_, by simpa using VRel.of_agg h2⟩
      simp only [Instr.build, Sem.run_bind, run_zeroValue' hi hzv, Result.andThen_ok, run_underlying hu]
      rw [Array.mapM_eq_mapM_toList]
      simp only [Sem.run_map, run_mapM_fields w _ hall, Result.andThen_ok, h1, Sem.run_pure]
  · rename_i n e z hu hz
    obtain ⟨i, zv, hi, hzv, hzs, rfl⟩ := zeroOf_spec hz
    split at h
    · rename_i d hd
      simp only [Option.map_eq_some_iff] at h
      obtain ⟨out, ho, rfl⟩ := h
      obtain ⟨out', h1, h2⟩ := sim_fill hp (zeroOf_flat hz φ) ho
      refine ⟨.agg out', ?_, by simpa using VRel.of_agg h2⟩
      simp [Instr.build, run_zeroValue' hi hzv, run_underlying hu, run_sizeOf' hd, h1]
    · cases h
  · cases h

theorem sim_buildSlice {φ : Phi} {H H' : AHeap} {w : World} (r : Rel φ H w) {t : TypeId} {n : Nat} {ps : List (Nat × Value)} {ps' : Array (Nat × Value)} {v : Value} (h : buildSliceOp P t n ps H = some (v, H')) (hp : Parts φ ps ps'.toList) :
    Sims P φ H w (Instr.buildSlice t n ps') v H' := by
  unfold buildSliceOp at h
  split at h
  · rename_i et hu
    split at h
    · rename_i i z hi hz
      obtain ⟨i', zv, hi', hzv, hzs, rfl⟩ := zeroOf_spec hz
      rw [hi] at hi'; cases hi'
      split at h
      · rename_i hb
        simp only [Option.map_eq_some_iff, Prod.mk.injEq] at h
        obtain ⟨out, ho, rfl, rfl⟩ := h
        have hrow := row_of_zero (n := n) (z := zv) hzs
        have hrel : VRels φ (repl n zv.cells.toList) (repl n zv.cells.toList) := by
          refine VRels.of_get rfl fun q v hq => ⟨v, hq, ?_⟩
          rw [repl_get] at hq
          split at hq
          · obtain ⟨v', g1, g2⟩ := (zeroOf_flat hz φ).get _ _ hq
            rw [hq] at g1; cases g1; exact g2
          · cases hq
        rw [← hrow] at hrel
        obtain ⟨out', h1, h2⟩ := sim_fill hp (by rw [hrow] at hrel ⊢; exact hrel) (hrow ▸ ho)
        obtain ⟨p1, p2⟩ := r.new (x := { cells := out }) (c := w.heap.size) (K := 0) (cs := out') (e := et) (fz := (0, 0)) (w' := w.alloc (.cells out' et)) rfl rfl rfl rfl rfl rfl
          (by simp [h2.length]) (fun _ => by simp [h2.length]) (fun e he => by cases he) (fun q v hq => by simpa using h2.get q v hq) (fun o _ => by omega)
        refine ⟨_, .slice (some ⟨w.heap.size, 0, none⟩) n n, _, ?_, ?_, p1, p2⟩
        · have hnb : ¬ (n * i.size > 2 ^ 24) := by omega
          by_cases h0 : n * i.size = 0
          · simp only [h0, if_true] at h1
            simp [Instr.buildSlice, run_underlying hu, run_sizeOf' hi, h0, newRow] at h1 ⊢
            simp [h1]
          · simp only [h0, if_false] at h1
            simp [Instr.buildSlice, run_underlying hu, run_sizeOf' hi, h0, hnb, newRow, run_zeroValue' hi hzv, h1]
        · exact .slice 0 n n (Phi.put_same _ _ _ _) (by unfold capG; omega)
      · cases h
    · cases h
  · cases h
end
end Go.Big
