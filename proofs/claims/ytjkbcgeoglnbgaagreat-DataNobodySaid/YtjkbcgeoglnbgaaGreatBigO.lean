/-
  A region that draws its order: whichever is drawn, it ends as the order of its text ends.
-/
import Derived.Test.YtjkbcgeoglnbgaaGreatBigM
set_option linter.unusedVariables false
set_option linter.unusedSimpArgs false
namespace Go.Big
section
variable {P : Program}

/-! which stand ahead of which -/

theorem maskOf_bit {acc : List Nat} {i : Nat} : ∀ {es : List Edge} {m : Nat}, (es.foldl (fun m e => if Region.binds .any e = true then m ||| (acc.getD e.on 0 ||| 2 ^ e.on) else m) m).testBit i = true →
    m.testBit i = true ∨ ∃ e ∈ es, Region.binds .any e = true ∧ (e.on = i ∨ (acc.getD e.on 0).testBit i = true)
  | [], m, h => .inl h
  | e :: es, m, h => by
    rw [List.foldl_cons] at h
    rcases maskOf_bit h with h1 | ⟨e1, h1, h2, h3⟩
    · split at h1
      · rename_i hb
        simp only [Nat.testBit_or, Bool.or_eq_true, Nat.testBit_two_pow, decide_eq_true_eq] at h1
        rcases h1 with h1 | h1 | h1
        · exact .inl h1
        · exact .inr ⟨e, by simp, hb, .inr h1⟩
        · exact .inr ⟨e, by simp, hb, .inl h1⟩
      · exact .inl h1
    · exact .inr ⟨e1, by simp [h1], h2, h3⟩

theorem befsGo_spec : ∀ (l : List Oper) (acc : List Nat), (∀ k, k < acc.length → (befsGo acc l).getD k 0 = acc.getD k 0) ∧
    ∀ k o, l[k]? = some o → ∀ i, ((befsGo acc l).getD (acc.length + k) 0).testBit i = true → ∃ e ∈ o.after.toList, Region.binds .any e = true ∧ (e.on = i ∨ ((befsGo acc l).getD e.on 0).testBit i = true)
  | [], acc => ⟨fun _ _ => rfl, fun k o h => by simp at h⟩
  | o :: l, acc => by
    obtain ⟨h1, h2⟩ := befsGo_spec l (acc ++ [maskOf acc o.after.toList])
    have pre : ∀ k, k < acc.length → (befsGo acc (o :: l)).getD k 0 = acc.getD k 0 := fun k hk => by
      simp only [befsGo]
      rw [h1 k (by simp; omega), List.getD_eq_getElem?_getD, List.getD_eq_getElem?_getD, List.getElem?_append_left hk]
    refine ⟨pre, fun k o' ho i hi => ?_⟩
    cases k with
    | zero =>
      simp only [List.getElem?_cons_zero, Option.some.injEq] at ho
      subst ho
      simp only [Nat.add_zero, befsGo] at hi
      rw [h1 _ (by simp)] at hi
      rw [List.getD_eq_getElem?_getD, List.getElem?_append_right (Nat.le_refl _)] at hi
      simp only [Nat.sub_self, List.getElem?_cons_zero, Option.getD_some] at hi
      rcases maskOf_bit hi with h3 | ⟨e, h3, h4, h5⟩
      · simp at h3
      · refine ⟨e, h3, h4, h5.imp id fun h5 => ?_⟩
        have hlt : e.on < acc.length := Classical.byContradiction fun hn => by
          rw [List.getD_eq_getElem?_getD, List.getElem?_eq_none (by omega)] at h5
          simp at h5
        rw [pre _ hlt]; exact h5
    | succ k =>
      simp only [List.getElem?_cons_succ] at ho
      simp only [befsGo] at hi ⊢
      exact h2 k o' ho i (by rw [List.length_append]; simpa [Nat.add_assoc, Nat.add_comm, Nat.add_left_comm] using hi)

theorem befs_spec {ops : Array Oper} {k : Nat} {o : Oper} (ho : ops[k]? = some o) {i : Nat} (h : hasBit (befs ops) k i = true) : ∃ e ∈ o.after, Region.binds .any e = true ∧ (e.on = i ∨ hasBit (befs ops) e.on i = true) := by
  obtain ⟨e, h1, h2, h3⟩ := (befsGo_spec ops.toList []).2 k o (by simpa using ho) i (by simpa [hasBit, befs] using h)
  exact ⟨e, by simpa using h1, h2, h3⟩

/-! memory -/

/-- A block laid down under a number kept for it. -/
theorem Rel.newAt {φ : Phi} {F : AHeap} {w w' : World} (r : Rel φ F w) {q K : Nat} {x : Blk} (hx : F.get (2 * q) = some x) (hφ : φ (2 * q) = none) {cs : Array Value} {e : TypeId} {fz : Nat × Nat}
    (hheap : w'.heap = w.heap.push (.cells cs e fz))
    (hl : x.cells.length ≤ cs.size) (hg0 : x.grow = none → cs.size = x.cells.length) (hg1 : ∀ e, x.grow = some e → cs.size = K * e)
    (hv : ∀ (i : Nat) (v : Value), x.cells[i]? = some v → ∃ v', cs[i]? = some v' ∧ VRel φ v v') (hf : ∀ o, o < cs.size → ¬ (fz.1 ≤ o ∧ o < fz.2)) :
    Rel (φ.put (2 * q) w.heap.size K) F w' := by
  have hnew : w'.heap[w.heap.size]? = some (.cells cs e fz) := by rw [hheap]; simp
  have hold : ∀ k, k < w.heap.size → w'.heap[k]? = w.heap[k]? := fun k hk => by
    rw [hheap, Array.getElem?_push, if_neg (by omega)]
  have hlt : ∀ b y c2 K2, F.get b = some y → φ b = some (c2, K2) → c2 < w.heap.size := fun b y c2 K2 g p => by
    obtain ⟨cs0, e0, fz0, h1, _⟩ := (r.blk b y c2 K2 g p).out
    exact (Array.getElem?_eq_some_iff.1 h1).1
  have put_ne : ∀ b, b ≠ 2 * q → (φ.put (2 * q) w.heap.size K) b = φ b := fun b hb => by unfold Phi.put; rw [if_neg hb]
  refine ⟨fun b y c K2 g p => ?_, fun b b' y y' c K1 K2 g g' p p' => ?_, fun k hk => ?_, fun b => ?_, r.absent⟩
  · by_cases hb : b = 2 * q
    · subst hb
      rw [hx] at g; cases g
      rw [Phi.put_same] at p; cases p
      refine ⟨cs, e, fz, hnew, hl, hg0, hg1, fun i v hi => ?_, fun _ => hf⟩
      obtain ⟨v', e1, e2⟩ := hv i v hi
      exact ⟨v', e1, e2.mono (Phi.le_put hφ)⟩
    · rw [put_ne _ hb] at p
      obtain ⟨cs0, e0, fz0, h1, h2, h3, h4, h5, h6⟩ := (r.blk b y c K2 g p).out
      refine ⟨cs0, e0, fz0, by rw [hold _ (hlt _ _ _ _ g p), h1], h2, h3, h4, fun i v hi => ?_, h6⟩
      obtain ⟨v', e1, e2⟩ := h5 i v hi
      exact ⟨v', e1, e2.mono (Phi.le_put hφ)⟩
  · by_cases h1 : b = 2 * q
    · by_cases h2 : b' = 2 * q
      · rw [h1, h2]
      · rw [put_ne _ h2] at p'
        subst h1
        rw [Phi.put_same] at p; cases p
        have := hlt _ _ _ _ g' p'
        omega
    · rw [put_ne _ h1] at p
      by_cases h2 : b' = 2 * q
      · subst h2
        rw [Phi.put_same] at p'; cases p'
        have := hlt _ _ _ _ g p
        omega
      · rw [put_ne _ h2] at p'
        exact r.inj _ _ _ _ _ _ _ g g' p p'
  · rw [put_ne _ (fun e => by have := r.absent k hk; rw [e, hx] at this; cases this)]
    exact r.fresh k hk
  · rw [put_ne _ (by omega)]; exact r.old b

theorem Ext.newAt {φ0 φ : Phi} {H0 F : AHeap} {w0 w w' : World} (x : Ext φ0 H0 w0 φ F w) {q K : Nat} (h0 : H0.get (2 * q) = none) (hφ0 : φ0 (2 * q) = none) (hφ : φ (2 * q) = none) (hq : H0.next ≤ q) (hq2 : q < F.next) {y : Obj}
    (hheap : w'.heap = w.heap.push y) (hos : w'.os = w.os) (ht : w'.tape = w.tape) (ho : w'.output = w.output) : Ext φ0 H0 w0 (φ.put (2 * q) w.heap.size K) F w' := by
  have hold : ∀ k, k < w.heap.size → w'.heap[k]? = w.heap[k]? := fun k hk => by
    rw [hheap, Array.getElem?_push, if_neg (by omega)]
  have put_ne : ∀ b, b ≠ 2 * q → (φ.put (2 * q) w.heap.size K) b = φ b := fun b hb => by unfold Phi.put; rw [if_neg hb]
  refine ⟨fun b y h => Phi.le_put hφ _ _ (x.mono b y h), x.next, fun b h h' => ?_, fun c hc hro => ?_, fun b y g p => ?_, x.newblk, fun b c K2 h h' => ?_, by rw [hheap]; simp; have := x.size; omega, hos.trans x.os, ht.trans x.tape, ho.trans x.output⟩
  · by_cases hb : b = 2 * q
    · exact ⟨q, hb, hq, hq2⟩
    · rw [put_ne _ hb] at h'; exact x.newid b h h'
  · obtain ⟨h1, h2⟩ := x.frame c hc hro
    have hs := x.size
    refine ⟨by rw [hold _ (by omega)]; exact h1, fun b y K2 g p => ?_⟩
    by_cases hb : b = 2 * q
    · subst hb; rw [Phi.put_same] at p; cases p; omega
    · rw [put_ne _ hb] at p; exact h2 b y K2 g p
  · obtain ⟨h1, h2⟩ := x.unmapped b y g p
    have hb : b ≠ 2 * q := fun e => by subst e; rw [h0] at g; cases g
    exact ⟨h1, by rw [put_ne _ hb]; exact h2⟩
  · by_cases hb : b = 2 * q
    · subst hb; rw [Phi.put_same] at h'; cases h'; exact .inl x.size
    · rw [put_ne _ hb] at h'; exact x.newat b c K2 h h'

theorem Rel.sub {φ : Phi} {F G : AHeap} {w : World} (r : Rel φ F w) (hs : ∀ b x, G.get b = some x → F.get b = some x) (hn : F.next = G.next) : Rel φ G w :=
  ⟨fun b x c K g p => r.blk b x c K (hs _ _ g) p, fun b b' x x' c K K' g g' p p' => r.inj _ _ _ _ _ _ _ (hs _ _ g) (hs _ _ g') p p', fun k hk => r.fresh k (hn ▸ hk), r.old, fun k hk => by
    cases h : G.get (2 * k) with
    | none => rfl
    | some x => have h2 := hs _ _ h; rw [r.absent k (hn ▸ hk)] at h2; cases h2⟩

/-- A run over a part of the heap, seen from the whole. -/
theorem Rel.frame {φ φ' : Phi} {F G G' F' : AHeap} {w w' : World} (rF : Rel φ F w) (hs : ∀ b x, G.get b = some x → F.get b = some x) (hn : F.next = G.next) (rG : Rel φ' G' w') (x : Ext φ G w φ' G' w') (hn' : F'.next = G'.next)
    (hF : ∀ b, F'.get b = match G.get b, F.get b with | none, some y => some y | _, _ => G'.get b) : Rel φ' F' w' ∧ Ext φ F w φ' F' w' := by
  have rG0 := rF.sub hs hn
  -- the blocks that the run did not see
  have lat : ∀ b y, G.get b = none → F.get b = some y → F'.get b = some y ∧ G'.get b = none ∧ (φ b = none → φ' b = none) := fun b y h1 h2 => by
    refine ⟨by rw [hF b, h1, h2], ?_, fun h3 => ?_⟩
    · cases h4 : G'.get b with
      | none => rfl
      | some z =>
        obtain ⟨_, q, rfl, hq, _⟩ := x.newblk b h1 (by simp [h4])
        rw [rF.absent q (hn ▸ hq)] at h2; cases h2
    · cases h4 : φ' b with
      | none => rfl
      | some z =>
        obtain ⟨q, rfl, hq, _⟩ := x.newid b h3 (by simp [h4])
        rw [rF.absent q (hn ▸ hq)] at h2; cases h2
  have cases' : ∀ b y, F'.get b = some y → (G.get b = none ∧ F.get b = some y) ∨ G'.get b = some y := fun b y h => by
    rw [hF b] at h
    split at h
    · rename_i h1 h2; cases h; exact .inl ⟨h1, h2⟩
    · exact .inr h
  have sub' : ∀ b y, G'.get b = some y → F'.get b = some y := fun b y h => by
    rw [hF b]
    split
    · rename_i z h1 h2; rw [(lat b z h1 h2).2.1] at h; cases h
    · exact h
  have keep : ∀ b y c K, G.get b = none → F.get b = some y → φ b = some (c, K) → c < w.heap.size ∧ w'.heap[c]? = w.heap[c]? := fun b y c K h1 h2 h3 => by
    obtain ⟨cs, e, fz, g1, _⟩ := (rF.blk b y c K h2 h3).out
    have hc : c < w.heap.size := (Array.getElem?_eq_some_iff.1 g1).1
    exact ⟨hc, (x.frame c hc fun b2 y2 K2 g p => by
      have := rF.inj _ _ _ _ _ _ _ (hs _ _ g) h2 p h3
      subst this; rw [h1] at g; cases g).1⟩
  have latφ : ∀ b y c K, G.get b = none → F.get b = some y → φ' b = some (c, K) → φ b = some (c, K) := fun b y c K h1 h2 h3 => by
    cases h4 : φ b with
    | none => rw [(lat b y h1 h2).2.2 h4] at h3; cases h3
    | some z => rw [x.mono b z h4] at h3; exact h3
  have apart : ∀ b y c K b' y' K', G.get b = none → F.get b = some y → φ' b = some (c, K) → G'.get b' = some y' → φ' b' = some (c, K') → False := fun b y c K b' y' K' h1 h2 h3 h4 h5 => by
    have h6 := latφ b y c K h1 h2 h3
    have hc := (keep b y c K h1 h2 h6).1
    cases h7 : φ b' with
    | some z =>
      rw [x.mono b' z h7] at h5; cases h5
      cases h8 : G.get b' with
      | some y2 =>
        have := rF.inj _ _ _ _ _ _ _ (hs _ _ h8) h2 h7 h6
        subst this; rw [h1] at h8; cases h8
      | none => rw [(x.newblk b' h8 (by simp [h4])).1] at h7; cases h7
    | none =>
      rcases x.newat b' c K' h7 h5 with h8 | ⟨b0, x0, h8, h9⟩
      · omega
      · have := rF.inj _ _ _ _ _ _ _ (hs _ _ h8) h2 h9 h6
        subst this; rw [h1] at h8; cases h8
  refine ⟨⟨fun b y c K g p => ?_, fun b b' y y' c K K' g g' p p' => ?_, fun k hk => rG.fresh k (hn' ▸ hk), rG.old, fun k hk => ?_⟩, ⟨x.mono, by rw [hn, hn']; exact x.next, fun b h h' => by rw [hn, hn']; exact x.newid b h h', fun c hc hro => ?_, fun b y g p => ?_, fun b g g' => ?_, fun b c K h h' => ?_, x.size, x.os, x.tape, x.output⟩⟩
  · rcases cases' b y g with ⟨h1, h2⟩ | h1
    · have h3 := latφ b y c K h1 h2 p
      obtain ⟨cs, e, fz, g1, g2, g3, g4, g5, g6⟩ := (rF.blk b y c K h2 h3).out
      refine ⟨cs, e, fz, by rw [(keep b y c K h1 h2 h3).2]; exact g1, g2, g3, g4, fun i v hi => ?_, g6⟩
      obtain ⟨v', e1, e2⟩ := g5 i v hi
      exact ⟨v', e1, e2.mono x.mono⟩
    · exact rG.blk b y c K h1 p
  · rcases cases' b y g with ⟨h1, h2⟩ | h1
    · rcases cases' b' y' g' with ⟨k1, k2⟩ | k1
      · exact rF.inj _ _ _ _ _ _ _ h2 k2 (latφ _ _ _ _ h1 h2 p) (latφ _ _ _ _ k1 k2 p')
      · exact (apart _ _ _ _ _ _ _ h1 h2 p k1 p').elim
    · rcases cases' b' y' g' with ⟨k1, k2⟩ | k1
      · exact (apart _ _ _ _ _ _ _ k1 k2 p' h1 p).elim
      · exact rG.inj _ _ _ _ _ _ _ h1 k1 p p'
  · cases h : F'.get (2 * k) with
    | none => rfl
    | some y =>
      rcases cases' _ y h with ⟨h1, h2⟩ | h1
      · rw [rF.absent k (by have := x.next; omega)] at h2; cases h2
      · rw [rG.absent k (hn' ▸ hk)] at h1; cases h1
  · obtain ⟨h1, h2⟩ := x.frame c hc fun b y K g p => hro b y K (hs _ _ g) p
    refine ⟨h1, fun b y K g p => ?_⟩
    rcases cases' b y g with ⟨h3, h4⟩ | h3
    · exact hro b y K h4 (latφ _ _ _ _ h3 h4 p)
    · exact h2 b y K h3 p
  · cases h : G.get b with
    | none => exact ⟨(lat b y h g).1, (lat b y h g).2.2 p⟩
    | some z =>
      have hz := hs _ _ h
      rw [g] at hz; cases hz
      obtain ⟨h1, h2⟩ := x.unmapped b y h p
      exact ⟨sub' _ _ h1, h2⟩
  · have hg : G.get b = none := by
      cases h : G.get b with
      | none => rfl
      | some z => rw [hs _ _ h] at g; cases g
    have hg' : G'.get b ≠ none := by
      rw [hF b, hg, g] at g'
      exact g'
    rw [hn, hn']
    exact x.newblk b hg hg'
  · rcases x.newat b c K h h' with h1 | ⟨b0, y, h1, h2⟩
    · exact .inl h1
    · exact .inr ⟨b0, y, hs _ _ h1, h2⟩

/-- Blocks of one heap laid into another. -/
theorem lay_blocks (F : AHeap) : ∀ (l : List Nat) (G : AHeap), ∃ F' : AHeap, F'.next = G.next ∧ ∀ b, F'.get b = if b % 2 = 0 ∧ b ∈ l then F.get b else G.get b
  | [], G => ⟨G, rfl, fun b => by simp⟩
  | q :: l, G => by
    obtain ⟨F', h1, h2⟩ := lay_blocks F l G
    by_cases hq : q % 2 = 0
    · refine ⟨F'.set q (F.get q), by simpa using h1, fun b => ?_⟩
      by_cases hb : b = q
      · subst hb; rw [AHeap.get_set_same _ _ hq, if_pos ⟨hq, by simp⟩]
      · rw [AHeap.get_set_ne _ _ hq hb, h2]; simp [hb]
    · refine ⟨F', h1, fun b => ?_⟩
      rw [h2]
      by_cases hb : b = q
      · subst hb; rw [if_neg (by simp [hq]), if_neg (by simp [hq])]
      · simp [hb]
end
end Go.Big
