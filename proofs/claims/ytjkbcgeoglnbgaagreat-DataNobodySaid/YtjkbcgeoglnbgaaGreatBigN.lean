/-
  Whole code, calls and rounds: the abstract run stands for the model's.
-/
import Derived.Test.YtjkbcgeoglnbgaaGreatBigS
import Derived.Scope
import Derived.LoopNIn
set_option linter.unusedVariables false
set_option linter.unusedSimpArgs false
namespace Go.Big
section
variable {P : Program}

def axExit : AX → Exit
  | .normal => .normal
  | .exit id => .exit id
  | .ret => .ret

/-- The marks of the loops over functions that a frame has been through. 'm': how large the heap was when the frame was entered. -/
inductive Marks (m : Nat) : List Deferred → World → Prop
  | nil (w : World) : Marks m [] w
  | cons {r : Nat} {ds : List Deferred} {w : World} (hm : m ≤ r) (h : w.heap[r]? = some (.deferred (some []))) (hn : ∀ d ∈ ds, d.target ≠ .collected r) (t : Marks m ds w) : Marks m ({ target := .collected r, args := #[] } :: ds) w

theorem Marks.keep {m : Nat} {ds : List Deferred} {w w' : World} (k : Marks m ds w) (h : ∀ r, { target := .collected r, args := #[] } ∈ ds → w.heap[r]? = some (.deferred (some [])) → w'.heap[r]? = some (.deferred (some []))) : Marks m ds w' := by
  induction k with
  | nil w => exact .nil _
  | cons hm h1 hn t ih => exact .cons hm (h _ (by simp) h1) hn (ih fun r hr hw => h r (by simp [hr]) hw)
theorem Marks.ext {m : Nat} {ds : List Deferred} {φ φ' : Phi} {H H' : AHeap} {w w' : World} (k : Marks m ds w) (r : Rel φ H w) (x : Ext φ H w φ' H' w') : Marks m ds w' :=
  k.keep fun q _ hq => by
    have hlt : q < w.heap.size := (Array.getElem?_eq_some_iff.1 hq).1
    rw [(x.frame q hlt fun b y K e1 e2 => by
      obtain ⟨cs, e, fz, g, _⟩ := (r.blk b y q K e1 e2).out
      rw [hq] at g; cases g).1]
    exact hq
theorem Marks.lt {m : Nat} {ds : List Deferred} {w : World} (k : Marks m ds w) : ∀ d ∈ ds, ∃ r, d.target = .collected r ∧ r < w.heap.size := by
  induction k with
  | nil w => simp
  | @cons r ds w hm h1 hn t ih =>
    intro d hd
    rcases List.mem_cons.1 hd with rfl | hd
    · exact ⟨r, rfl, (Array.getElem?_eq_some_iff.1 h1).1⟩
    · exact ih d hd

/-- In a round's frame: the loop's record is there. -/
def RoundOK (ro : Option Nat) (w : World) : Prop := ∀ l, ro = some l → ∃ lp, w.heap[l]? = some (.loop lp)
theorem RoundOK.ext {ro : Option Nat} {φ φ' : Phi} {H H' : AHeap} {w w' : World} (m : RoundOK ro w) (r : Rel φ H w) (x : Ext φ H w φ' H' w') : RoundOK ro w' := fun l hl => by
  obtain ⟨lp, hq⟩ := m l hl
  have hlt : l < w.heap.size := (Array.getElem?_eq_some_iff.1 hq).1
  refine ⟨lp, ?_⟩
  rw [(x.frame l hlt fun b y K e1 e2 => by
    obtain ⟨cs, e, fz, g, _⟩ := (r.blk b y l K e1 e2).out
    rw [hq] at g; cases g).1]
  exact hq

/-- A block that holds no cells is given another such thing. -/
theorem Rel.obj {φ : Phi} {H : AHeap} {w w' : World} (r : Rel φ H w) {c : Nat} (ho : Wrote w w' c) (hn : ∀ cs e fz, w.heap[c]? ≠ some (.cells cs e fz)) : Rel φ H w' :=
  ⟨fun b x c2 K g p => by
    obtain ⟨cs, e, fz, h1, h2⟩ := (r.blk b x c2 K g p).out
    have hne : c2 ≠ c := fun e' => by subst e'; exact hn _ _ _ h1
    exact ⟨cs, e, fz, by rw [ho.other _ hne]; exact h1, h2⟩, r.inj, r.fresh, r.old, r.absent⟩
theorem Ext.obj {φ φ' : Phi} {H H' : AHeap} {w w' w'' : World} (x : Ext φ H w φ' H' w') {c : Nat} (ho : Wrote w' w'' c) (hc : w.heap.size ≤ c) : Ext φ H w φ' H' w'' :=
  ⟨x.mono, x.next, x.newid, fun c2 hc2 hro => by
    obtain ⟨h1, h2⟩ := x.frame c2 hc2 hro
    exact ⟨by rw [ho.other _ (by omega)]; exact h1, h2⟩, x.unmapped, x.newblk, x.newat, by rw [ho.size]; exact x.size, ho.os.trans x.os, ho.tape.trans x.tape, ho.output.trans x.output⟩
theorem Ext.detour {φ φ1 φ3 : Phi} {H H1 H3 : AHeap} {w w1 w2 w3 w4 : World} {c : Nat} (x1 : Ext φ H w φ1 H1 w1) (o12 : Wrote w1 w2 c) (x2 : Ext φ1 H1 w2 φ3 H3 w3) (o34 : Wrote w3 w4 c) (hc : w4.heap[c]? = w.heap[c]?)
    (hno : ∀ b x K, H3.get b = some x → φ3 b = some (c, K) → x.ro = true) : Ext φ H w φ3 H3 w4 where
  mono b x e := x2.mono b x (x1.mono b x e)
  next := Nat.le_trans x1.next x2.next
  newid b e e' := by
    cases hb : φ1 b with
    | none => obtain ⟨q, h1, h2, h3⟩ := x2.newid b hb e'; exact ⟨q, h1, Nat.le_trans x1.next h2, h3⟩
    | some x => obtain ⟨q, h1, h2, h3⟩ := x1.newid b e (by simp [hb]); exact ⟨q, h1, h2, Nat.lt_of_lt_of_le h3 x2.next⟩
  frame c2 hc2 hro := by
    by_cases h : c2 = c
    · subst h; exact ⟨hc, hno⟩
    · obtain ⟨h1, h2⟩ := x1.frame c2 hc2 hro
      obtain ⟨h3, h4⟩ := x2.frame c2 (by rw [o12.size]; exact Nat.lt_of_lt_of_le hc2 x1.size) h2
      exact ⟨by rw [o34.other _ h, h3, o12.other _ h, h1], h4⟩
  unmapped b x e e' := by
    obtain ⟨h1, h2⟩ := x1.unmapped b x e e'
    exact x2.unmapped b x h1 h2
  newblk b e e' := by
    cases hb : H1.get b with
    | none =>
      obtain ⟨h0, q, h1, h2, h3⟩ := x2.newblk b hb e'
      refine ⟨?_, q, h1, Nat.le_trans x1.next h2, h3⟩
      cases hφ : φ b with
      | none => rfl
      | some y => rw [x1.mono b y hφ] at h0; cases h0
    | some x =>
      obtain ⟨h0, q, h1, h2, h3⟩ := x1.newblk b e (by simp [hb])
      exact ⟨h0, q, h1, h2, Nat.lt_of_lt_of_le h3 x2.next⟩
  newat b c K e e' := by
    cases hb : φ1 b with
    | some x => rw [x2.mono b x hb] at e'; cases e'; exact x1.newat b c K e hb
    | none =>
      rcases x2.newat b c K hb e' with h1 | ⟨b0, x, h1, h2⟩
      · exact .inl (Nat.le_trans x1.size (by rw [← o12.size]; exact h1))
      · cases h3 : φ b0 with
        | none => exact x1.newat b0 c K h3 h2
        | some y =>
          rw [x1.mono b0 y h3] at h2; cases h2
          cases h4 : H.get b0 with
          | some z => exact .inr ⟨b0, z, h4, h3⟩
          | none => rw [(x1.newblk b0 h4 (by simp [h1])).1] at h3; cases h3
  size := by rw [o34.size]; refine Nat.le_trans x1.size ?_; rw [← o12.size]; exact x2.size
  os := o34.os.trans (x2.os.trans (o12.os.trans x1.os))
  tape := o34.tape.trans (x2.tape.trans (o12.tape.trans x1.tape))
  output := o34.output.trans (x2.output.trans (o12.output.trans x1.output))

theorem run_getObj {w : World} {c : Nat} {o : Obj} (h : w.heap[c]? = some o) (hn : ∀ cs e fz, o ≠ .cells cs e fz) : (getObj c).run P w = .ok o w := by
  cases o <;> first
    | (exact absurd rfl (hn _ _ _))
    | simp [getObj, Sem.run, h]
theorem run_setObj {w : World} {c : Nat} {o : Obj} (h : w.heap[c]? = some o) (hn : ∀ cs e fz, o ≠ .cells cs e fz) (o' : Obj) :
    ∃ w', (setObj c o').run P w = .ok () w' ∧ w'.heap[c]? = some o' ∧ Wrote w w' c := by
  have hlt : c < w.heap.size := (Array.getElem?_eq_some_iff.1 h).1
  refine ⟨{ w with heap := w.heap.setIfInBounds c o' }, ?_, by simp [hlt], ⟨fun k hk => by simp [Array.getElem?_setIfInBounds_ne (Ne.symm hk)], by simp, rfl, rfl, rfl⟩⟩
  cases o <;> first
    | (exact absurd rfl (hn _ _ _))
    | simp [setObj, Sem.run, h]

section scope
variable {b : Frame} {a : Act} {k : List Item} {cs : List Frame} {w : World} {F : Fence} {n : Nat} {Q : Exit → Act → World → Prop}
theorem stepR_scope {c : Code} : step P (lone (b.atR a (.code (.scope c) :: k)) cs w) = .next (lone (b.atR a (.code c :: .inScope c :: k)) cs w) :=
  step_lone_go (by simp [stepG, stepG.exec, Frame.atR])
theorem stepR_inScope {c : Code} : step P (lone (b.atR a (.inScope c :: k)) cs w) = .next (lone (b.atR a k) cs w) :=
  step_lone_go (by simp [stepG, stepG.exec, Frame.atR])
theorem wpIn_scope {c : Code} (h : c.wpIn F n P (Exit.noGoto Q) a w) : (Code.scope c).wpIn F n P Q a w := by
  intro b k cs hro hb hr
  have h0 : (lone (b.atR a (.code (.scope c) :: k)) cs w).fenced P F := fenced_calm hb hr rfl
  obtain ⟨e, a₁, w₁, hq, harr⟩ := h b (.inScope c :: k) cs hro hb hr
  cases e with
  | normal => exact ⟨.normal, a₁, w₁, hq, .head h0 stepR_scope (StepsIn.trans harr (.one (fenced_calm hb hr rfl) stepR_inScope))⟩
  | exit id =>
    have hx : exitTo id (.inScope c :: k) = exitTo id k := by simp [exitTo]
    exact ⟨.exit id, a₁, w₁, hq, fun k' hk => .head h0 stepR_scope (harr.1 k' (by rw [hx]; exact hk)),
      fun hr' hk => let ⟨k₁, h1, h2⟩ := harr.2 hr' (by rw [hx]; exact hk); ⟨k₁, h1, .head h0 stepR_scope h2⟩⟩
  | goto l => exact hq.elim
  | ret => exact ⟨_, a₁, w₁, hq, .of_steps (b := b) (k := k) (cs := cs) (e := .ret) (.one h0 stepR_scope) harr⟩
  | panic ch => exact ⟨_, a₁, w₁, hq, .of_steps (b := b) (k := k) (cs := cs) (e := .panic ch) (.one h0 stepR_scope) harr⟩
  | outgrown => exact ⟨_, a₁, w₁, hq, .of_steps (b := b) (k := k) (cs := cs) (e := .outgrown) (.one h0 stepR_scope) harr⟩
end scope

/-- What stands behind a piece of code. -/
structure Behind (m : Nat) (φ : Phi) (H : AHeap) (w : World) (ro : Option Nat) (env' : Env) (H' : AHeap) (φ' : Phi) (a' : Act) (w' : World) : Prop where
  re : EnvRel φ' env' a'
  r : Rel φ' H' w'
  x : Ext φ H w φ' H' w'
  marks : Marks m a'.defers w'
  round : RoundOK ro w'

theorem Behind.trans {m : Nat} {φ φ1 φ' : Phi} {H H1 H' : AHeap} {w w1 w' : World} {ro : Option Nat} {env1 env' : Env} {a1 a' : Act} (h : Behind m φ H w ro env1 H1 φ1 a1 w1) (k : Behind m φ1 H1 w1 ro env' H' φ' a' w') : Behind m φ H w ro env' H' φ' a' w' :=
  ⟨k.re, k.r, h.x.trans k.x, k.marks, k.round⟩

theorem getLoop_run {w : World} {c : Nat} {lp : Loop} (h : w.heap[c]? = some (.loop lp)) : (Instr.getLoop c).run P w = .ok lp w := by
  simp [Instr.getLoop, run_getObj (P := P) h (fun _ _ _ => by simp)]

/-- A loop's record laid down under the next abstract number. -/
theorem Rel.newLoop {φ : Phi} {H : AHeap} {w w1 : World} (r : Rel φ H w) {l : Nat} (hl : w.heap.size ≤ l) (hn : ∀ cs e fz, w1.heap[l]? ≠ some (.cells cs e fz)) (hold : ∀ k, k < w.heap.size → w1.heap[k]? = w.heap[k]?) (hsz : w.heap.size ≤ w1.heap.size)
    (hos : w1.os = w.os) (ht : w1.tape = w.tape) (hout : w1.output = w.output) : Rel (φ.put H.fresh l 0) H.skip w1 ∧ Ext φ H w (φ.put H.fresh l 0) H.skip w1 := by
  have hfr := r.fresh'
  have hno : H.get H.fresh = none := r.absent _ (Nat.le_refl _)
  have hg : ∀ q, H.skip.get q = H.get q := fun q => rfl
  have put_ne : ∀ q, q ≠ H.fresh → (φ.put H.fresh l 0) q = φ q := fun q hq => by unfold Phi.put; rw [if_neg hq]
  have hlt : ∀ b y c2 K2, H.get b = some y → φ b = some (c2, K2) → c2 < w.heap.size := fun b y c2 K2 g p => by
    obtain ⟨cs0, e0, fz0, h1, _⟩ := (r.blk b y c2 K2 g p).out
    exact (Array.getElem?_eq_some_iff.1 h1).1
  have pres : ∀ b y, H.get b = some y → b ≠ H.fresh := fun b y g e => by rw [e, hno] at g; cases g
  refine ⟨⟨fun b x c K g p => ?_, fun b b' x x' c K K' g g' p p' => ?_, fun k hk => ?_, fun b => ?_, fun k hk => ?_⟩, ⟨Phi.le_put hfr, by simp [AHeap.skip], ?_, ?_, ?_, fun b g g' => absurd g g', (fun b c K h1 h2 => by
    by_cases hbb : b = H.fresh
    · subst hbb; rw [Phi.put_same] at h2; cases h2; exact .inl hl
    · rw [put_ne _ hbb, h1] at h2; cases h2), hsz, hos, ht, hout⟩⟩
  · rw [hg] at g
    rw [put_ne _ (pres _ _ g)] at p
    obtain ⟨cs, e, fz, h1, h2, h3, h4, h5, h6⟩ := (r.blk b x c K g p).out
    refine ⟨cs, e, fz, by rw [hold _ (hlt _ _ _ _ g p)]; exact h1, h2, h3, h4, fun i v hi => ?_, h6⟩
    obtain ⟨v', e1, e2⟩ := h5 i v hi
    exact ⟨v', e1, e2.mono (Phi.le_put hfr)⟩
  · rw [hg] at g g'
    rw [put_ne _ (pres _ _ g)] at p
    rw [put_ne _ (pres _ _ g')] at p'
    exact r.inj _ _ _ _ _ _ _ g g' p p'
  · simp only [AHeap.skip] at hk
    rw [put_ne _ (by unfold AHeap.fresh; omega)]
    exact r.fresh k (by omega)
  · rw [put_ne _ (by unfold AHeap.fresh; omega)]; exact r.old b
  · simp only [AHeap.skip] at hk
    rw [hg]; exact r.absent k (by omega)
  · intro b h h'
    have : b = H.fresh := by
      apply Classical.byContradiction; intro hne
      apply h'; rw [put_ne _ hne]; exact h
    exact ⟨H.next, this, Nat.le_refl _, by simp [AHeap.skip]⟩
  · intro c hc hro
    refine ⟨hold c hc, fun b x K g p => ?_⟩
    rw [hg] at g
    rw [put_ne _ (pres _ _ g)] at p
    exact hro _ _ _ g p
  · intro b x g p
    exact ⟨by rw [hg]; exact g, by rw [put_ne _ (pres _ _ g)]; exact p⟩

/-- A loop's record laid down. -/
theorem run_enterLoop {ro : Option Nat} {w : World} (hro : RoundOK ro w) (fn : FuncId) (tmps : Array Value) (ps : Array Tmp) (as body : Code) :
    ∃ l mark w2 lp, (Instr.enterLoop fn tmps ps as body ro).run P w = .ok (l, mark) w2 ∧ w.heap.size ≤ l ∧ w2.heap[l]? = some (.loop lp) ∧ lp.state = .ready ∧ lp.pending = none ∧ lp.params = ps ∧ lp.tmps = tmps ∧ lp.assign = as ∧ lp.body = body ∧
      (∀ k, k < w.heap.size → w2.heap[k]? = w.heap[k]?) ∧ w.heap.size ≤ w2.heap.size ∧ w2.os = w.os ∧ w2.tape = w.tape ∧ w2.output = w.output ∧
      (mark = [] ∨ ∃ r, mark = [{ target := .collected r, args := #[] }] ∧ w.heap.size ≤ r ∧ r ≠ l ∧ w2.heap[r]? = some (.deferred (some []))) := by
  cases ro with
  | none =>
    let lp : Loop := { state := .ready, pending := none, fn, tmps, params := ps, assign := as, body, defers := w.heap.size }
    refine ⟨w.heap.size + 1, [{ target := .collected w.heap.size, args := #[] }], { w with heap := (w.heap.push (.deferred (some []))).push (.loop lp) }, lp, ?_, by omega, ?_, rfl, rfl, rfl, rfl, rfl, rfl, ?_, ?_, rfl, rfl, rfl, .inr ⟨w.heap.size, rfl, Nat.le_refl _, by omega, ?_⟩⟩
    · simp [Instr.enterLoop, lp]
      rfl
    · show ((w.heap.push _).push _)[w.heap.size + 1]? = _
      rw [Array.getElem?_push, if_pos (by simp)]
    · intro k hk
      show ((w.heap.push _).push _)[k]? = _
      rw [Array.getElem?_push, if_neg (by simp; omega), Array.getElem?_push, if_neg (by omega)]
    · show w.heap.size ≤ ((w.heap.push _).push _).size
      simp; omega
    · show ((w.heap.push _).push _)[w.heap.size]? = _
      rw [Array.getElem?_push, if_neg (by simp), Array.getElem?_push, if_pos rfl]
  | some l0 =>
    obtain ⟨lp0, h0⟩ := hro l0 rfl
    let lp : Loop := { state := .ready, pending := none, fn, tmps, params := ps, assign := as, body, defers := lp0.defers }
    refine ⟨w.heap.size, [], { w with heap := w.heap.push (.loop lp) }, lp, ?_, by omega, ?_, rfl, rfl, rfl, rfl, rfl, rfl, ?_, ?_, rfl, rfl, rfl, .inl rfl⟩
    · simp [Instr.enterLoop, getLoop_run h0, lp]
    · show (w.heap.push _)[w.heap.size]? = _
      rw [Array.getElem?_push, if_pos rfl]
    · intro k hk
      show (w.heap.push _)[k]? = _
      rw [Array.getElem?_push, if_neg (by omega)]
    · show w.heap.size ≤ (w.heap.push _).size
      simp

/-- Whole code. -/
theorem sim_code {X : XT} (hX : ExtOK P X) {call : ACalls} (hc : CallOK P call) (hmo : P.follows .mixedOrders = true) {Γ : Gam} {ro : Option Nat} {n m N : Nat} : ∀ (c : Code) {sc : SCode}, strip P c = some sc → ∀ {φ : Phi} {env env' : Env} {H H' : AHeap} {a : Act} {w : World} {x : AX} {Q : Exit → Act → World → Prop},
    Rel φ H w → Loops P φ Γ w → EnvRel φ env a → RoundOK ro w → Marks m a.defers w → m ≤ w.heap.size → exec X P call N Γ sc env H = some (x, env', H') →
    (∀ φ' a' w', Behind m φ H w ro env' H' φ' a' w' → Q (axExit x) a' w') → c.wpIn (FW ro) n P Q a w
  | .skip, sc, hs, φ, env, env', H, H', a, w, x, Q, r, rl, re, rr, mk, hm, h, hQ => by
    simp only [strip, Option.some.injEq] at hs; subst hs
    cases h
    exact wpIn_skip (hQ φ a w ⟨re, r, Ext.refl _ _ _, mk, rr⟩)
  | .region id ops false, sc, hs, φ, env, env', H, H', a, w, x, Q, r, rl, re, rr, mk, hm, h, hQ => by
    simp only [strip, Option.map_eq_some_iff] at hs
    obtain ⟨l, hl, rfl⟩ := hs
    simp only [exec] at h
    split at h
    · rename_i e' h' he
      cases h
      refine wpIn_region_list (sim_list hX hc hl r rl re he fun φ' a' w' hd re' r' x' => hQ φ' a' w' ⟨re', r', x', ?_, rr.ext r x'⟩)
      rw [hd]; exact mk.ext r x'
    · cases h
  | .region id ops true, sc, hs, φ, env, env', H, H', a, w, x, Q, r, rl, re, rr, mk, hm, h, hQ => by
    simp only [strip, Option.map_eq_some_iff] at hs
    obtain ⟨l, hl, rfl⟩ := hs
    simp only [exec] at h
    split at h
    · rename_i e' h' he
      cases h
      refine sim_draw hX hc hmo hl r rl re he fun φ' a' w' hd re' r' x' => hQ φ' a' w' ⟨re', r', x', ?_, rr.ext r x'⟩
      rw [hd]; exact mk.ext r x'
    · cases h
  | .seq c d, sc, hs, φ, env, env', H, H', a, w, x, Q, r, rl, re, rr, mk, hm, h, hQ => by
    simp only [strip] at hs
    split at hs
    · rename_i s1 s2 h1 h2
      cases hs
      simp only [exec] at h
      refine wpIn_seq ?_
      split at h
      · rename_i e1 H1 he
        refine sim_code hX hc hmo c h1 r rl re rr mk hm he fun φ1 a1 w1 b1 => ?_
        exact sim_code hX hc hmo d h2 b1.r (rl.ext r b1.x) b1.re b1.round b1.marks (Nat.le_trans hm b1.x.size) h fun φ2 a2 w2 b2 => hQ φ2 a2 w2 (b1.trans b2)
      · rename_i hne
        refine sim_code hX hc hmo c h1 r rl re rr mk hm h fun φ1 a1 w1 b1 => ?_
        have := hQ φ1 a1 w1 b1
        cases x with
        | normal => exact absurd h (hne _ _)
        | exit id => exact this
        | ret => exact this
    · cases hs
  | .cond q c d, sc, hs, φ, env, env', H, H', a, w, x, Q, r, rl, re, rr, mk, hm, h, hQ => by
    simp only [strip] at hs
    split at hs
    · rename_i s1 s2 h1 h2
      split at hs
      · rename_i hf
        cases hs
        simp only [exec] at h
        have hq := re.eval r.old hf
        split at h
        · rename_i hb
          rw [hb] at hq
          generalize hq' : a.eval q = v' at hq
          cases hq
          exact wpIn_cond_true hq' (sim_code hX hc hmo c h1 r rl re rr mk hm h hQ)
        · rename_i hb
          rw [hb] at hq
          generalize hq' : a.eval q = v' at hq
          cases hq
          exact wpIn_cond_false hq' (sim_code hX hc hmo d h2 r rl re rr mk hm h hQ)
        · cases h
      · cases hs
    · cases hs
  | .block id c, sc, hs, φ, env, env', H, H', a, w, x, Q, r, rl, re, rr, mk, hm, h, hQ => by
    simp only [strip, Option.map_eq_some_iff] at hs
    obtain ⟨s1, h1, rfl⟩ := hs
    simp only [exec] at h
    refine wpIn_block ?_
    split at h
    · rename_i i e1 H1 he
      split at h
      · rename_i hi
        cases h
        refine sim_code hX hc hmo c h1 r rl re rr mk hm he fun φ1 a1 w1 b1 => ?_
        simp only [axExit, Exit.inBlock, hi, if_true]
        exact hQ φ1 a1 w1 b1
      · rename_i hi
        cases h
        refine sim_code hX hc hmo c h1 r rl re rr mk hm he fun φ1 a1 w1 b1 => ?_
        simp only [axExit, Exit.inBlock, hi, if_false]
        exact hQ φ1 a1 w1 b1
    · rename_i hne
      refine sim_code hX hc hmo c h1 r rl re rr mk hm h fun φ1 a1 w1 b1 => ?_
      have := hQ φ1 a1 w1 b1
      cases x with
      | normal => exact this
      | exit id => exact absurd h (hne _ _ _)
      | ret => exact this
  | .loop c, sc, hs, φ, env, env', H, H', a, w, x, Q, r, rl, re, rr, mk, hm, h, hQ => by
    simp only [strip, Option.map_eq_some_iff] at hs
    obtain ⟨s1, h1, rfl⟩ := hs
    simp only [exec] at h
    refine wpIn_loop_rounds N ?_
    have key : ∀ (K : Nat) {φ1 : Phi} {env1 : Env} {H1 : AHeap} {a1 : Act} {w1 : World}, Behind m φ H w ro env1 H1 φ1 a1 w1 → execLoop (exec X P call N Γ s1) K env1 H1 = some (x, env', H') → Code.roundsIn (FW ro) n P c Q K a1 w1 := by
      intro K
      induction K with
      | zero => intro φ1 env1 H1 a1 w1 b1 h; cases h
      | succ K ih =>
        intro φ1 env1 H1 a1 w1 b1 h
        simp only [execLoop] at h
        rw [roundsIn_succ]
        split at h
        · rename_i e2 H2 he
          refine sim_code hX hc hmo c h1 b1.r (rl.ext r b1.x) b1.re b1.round b1.marks (Nat.le_trans hm b1.x.size) he fun φ2 a2 w2 b2 => ?_
          exact ih (b1.trans b2) h
        · rename_i hne
          refine sim_code hX hc hmo c h1 b1.r (rl.ext r b1.x) b1.re b1.round b1.marks (Nat.le_trans hm b1.x.size) h fun φ2 a2 w2 b2 => ?_
          have := hQ φ2 a2 w2 (b1.trans b2)
          cases x with
          | normal => exact absurd h (hne _ _)
          | exit id => exact this
          | ret => exact this
    exact key N ⟨re, r, Ext.refl _ _ _, mk, rr⟩ h
  | .exit id, sc, hs, φ, env, env', H, H', a, w, x, Q, r, rl, re, rr, mk, hm, h, hQ => by
    simp only [strip, Option.some.injEq] at hs; subst hs
    cases h
    exact wpIn_exit (hQ φ a w ⟨re, r, Ext.refl _ _ _, mk, rr⟩)
  | .ret, sc, hs, φ, env, env', H, H', a, w, x, Q, r, rl, re, rr, mk, hm, h, hQ => by
    simp only [strip, Option.some.injEq] at hs; subst hs
    cases h
    exact wpIn_ret (hQ φ a w ⟨re, r, Ext.refl _ _ _, mk, rr⟩)
  | .label id, sc, hs, φ, env, env', H, H', a, w, x, Q, r, rl, re, rr, mk, hm, h, hQ => by
    simp only [strip, Option.some.injEq] at hs; subst hs
    cases h
    exact wpIn_label (hQ φ a w ⟨re, r, Ext.refl _ _ _, mk, rr⟩)
  | .scope c, sc, hs, φ, env, env', H, H', a, w, x, Q, r, rl, re, rr, mk, hm, h, hQ => by
    simp only [strip] at hs
    refine wpIn_scope (sim_code hX hc hmo c hs r rl re rr mk hm h fun φ1 a1 w1 b1 => ?_)
    have := hQ φ1 a1 w1 b1
    cases x <;> exact this
  | .rangeFunc f ps as body, sc, hs, φ, env, env', H, H', a, w, x, Q, r, rl, re, rr, mk, hm, h, hQ => by
    simp only [strip] at hs
    split at hs
    · rename_i s1 s2 h1 h2
      split at hs
      · rename_i hf
        cases hs
        simp only [exec] at h
        have hq := re.eval r.old hf
        split at h
        · rename_i g first captured hb
          rw [hb] at hq
          split at h
          · rename_i hen
            split at h
            · rename_i u H3 hcall
              cases h
              generalize hq' : a.eval f = v' at hq
              cases hq with
              | func fn hy g1 g2 g3 g4 =>
              rename_i first' captured'
              refine wpIn_rangeFunc fun fn _ => ?_
              obtain ⟨l, mark, w2, lp, e1, e2, e3, e4, e5, e6, e7, e8, e9, e10, e11, e12, e13, e14, e15⟩ := run_enterLoop (P := P) rr fn a.tmps ps as body
              obtain ⟨r1, x1⟩ := r.newLoop (w1 := w2) e2 (fun _ _ _ e => by rw [e3] at e; cases e) e10 e11 e12 e13 e14
              have hinv : (invoke (.fn (.func g) captured') (first' ++ #[Value.func (.yield l) #[] #[]])).run P w2 = .ok (.enter g (first' ++ #[Value.func (.yield l) #[] #[]] ++ captured')) w2 := by
                simp only [invoke]
                exact run_callFunc hen _ _
              have rl1 : Loops P (φ.put H.fresh l 0) ((H.fresh, ⟨env, ps.toList, s1, s2⟩) :: Γ) w2 := by
                have old := rl.ext r x1
                constructor
                · intro b L hb
                  rcases List.mem_cons.1 hb with hb | hb
                  · cases hb
                    exact ⟨l, 0, Phi.put_same _ _ _ _, ⟨lp, e3, e4, e5, by rw [e6], ⟨by simp only [e7]; exact re.size, fun t => by simp only [e7]; exact (re.getD t).mono x1.mono⟩, by rw [e8]; exact h1, by rw [e9]; exact h2⟩⟩
                  · exact old.rec_ b L hb
                · have small : ∀ b L c K, (b, L) ∈ Γ → (φ.put H.fresh l 0) b = some (c, K) → c < w.heap.size := fun b L c K hb hφ => by
                    obtain ⟨c2, K2, q1, ⟨lp2, q2, _⟩⟩ := rl.rec_ b L hb
                    rw [x1.mono _ _ q1] at hφ; cases hφ
                    exact (Array.getElem?_eq_some_iff.1 q2).1
                  intro b L b' L' c K K' hb hb' p p'
                  rcases List.mem_cons.1 hb with hb | hb
                  · rcases List.mem_cons.1 hb' with hb' | hb'
                    · cases hb; cases hb'; rfl
                    · cases hb
                      rw [Phi.put_same] at p; cases p
                      have := small b' L' l K' hb' p'
                      omega
                  · rcases List.mem_cons.1 hb' with hb' | hb'
                    · cases hb'
                      rw [Phi.put_same] at p'; cases p'
                      have := small b L l K hb p
                      omega
                    · exact old.inj b L b' L' c K K' hb hb' p p'
              have hargs : VRels (φ.put H.fresh l 0) (first.toList ++ [.func (.yield H.fresh) #[] #[]] ++ captured.toList) (first' ++ #[Value.func (.yield l) #[] #[]] ++ captured').toList := by
                rw [Array.toList_append, Array.toList_append]
                exact (((VRels.of_arr g1 g3).mono x1.mono).append (.cons (.yield (Phi.put_same _ _ _ _)) .nil)).append ((VRels.of_arr g2 g4).mono x1.mono)
              refine ⟨l, mark, w2, { target := .fn (.func g) captured', args := first' ++ #[Value.func (.yield l) #[] #[]] }, w2, g, _, w2, e1, ?_, fun _ _ => trivial, hinv, fun hd => by simp [FW] at hd, ?_⟩
              · have hmap : Array.map a.eval #[Operand.const (Value.func (.yield l) #[] #[])] = #[Value.func (.yield l) #[] #[]] := by simp [Act.eval]
                simp only [resolve, rangeCall, hmap, hq', Deferred.ofValue, Sem.run_pure]
              · refine CallsIn.mono (callsIn_FW (hc.fn _ _ _ _ _ _ hcall _ w2 _ r1 rl1 hargs)) ?_
                rintro e w3 ⟨φ3, v', rfl, hv, r3, x3⟩
                have lt : ∀ (k : Nat) (o : Obj), w2.heap[k]? = some o → (∀ cs e fz, o ≠ Obj.cells cs e fz) → w3.heap[k]? = some o := fun k o hk hno => by
                  rw [(x3.frame k (Array.getElem?_eq_some_iff.1 hk).1 fun b y K q1 q2 => by
                    obtain ⟨cs, e, fz, q, _⟩ := (r1.blk b y k K q1 q2).out
                    rw [hk] at q; exact absurd (Option.some.inj q) (hno _ _ _)).1]
                  exact hk
                have hl3 := lt l _ e3 (fun _ _ _ e => by cases e)
                obtain ⟨w4, k1, k2, k3⟩ := run_setObj (P := P) hl3 (fun _ _ _ e => by cases e) (.loop { lp with state := .exhausted })
                have x4 := (x1.trans x3).obj k3 e2
                refine ⟨none, w4, ?_, hQ φ3 _ w4 ⟨⟨re.size, fun t => (re.getD t).mono x4.mono⟩, r3.obj k3 (fun _ _ _ e => by rw [hl3] at e; cases e), x4, ?_, rr.ext r x4⟩⟩
                · rw [e5] at k1
                  simp [Instr.endLoop, getLoop_run hl3, e4, k1, e5]
                · have old := mk.ext r x4
                  rcases e15 with rfl | ⟨q, rfl, q1, q2, q3⟩
                  · exact old
                  · refine .cons (by omega) ?_ (fun d hd => ?_) old
                    · rw [k3.other _ q2]
                      exact lt q _ q3 (fun _ _ _ e => by cases e)
                    · obtain ⟨q', t1, t2⟩ := mk.lt d hd
                      rw [t1]
                      intro e; cases e; omega
            · cases h
          · cases h
        · cases h
      · cases hs
    · cases hs
  | .goto _, sc, hs, φ, env, env', H, H', a, w, x, Q, r, rl, re, rr, mk, hm, h, hQ => by simp [strip] at hs

end
end Go.Big
