/-
  A region in the order of its text.
-/
import Derived.Test.YtjkbcgeoglnbgaaGreatBigK
import Derived.OrdersIn
import Derived.TacticsIn
import Derived.RangeFuncIn
import Derived.RangeFuncLeaves
set_option linter.unusedVariables false
set_option linter.unusedSimpArgs false
namespace Go.Big

section
variable {P : Program}

/-- The slots of a frame are alike. -/
structure EnvRel (φ : Phi) (env : Env) (a : Act) : Prop where
  size : env.n = a.tmps.size
  getD : ∀ t : Tmp, VRel φ (env.get t) (a.tmps.getD t undef)

theorem EnvRel.mono {φ ψ : Phi} (h : φ.le ψ) {env : Env} {a : Act} (r : EnvRel φ env a) : EnvRel ψ env a := ⟨r.size, fun t => (r.getD t).mono h⟩

theorem EnvRel.eval {φ : Phi} {env : Env} {a : Act} (r : EnvRel φ env a) (ho : ∀ b, φ (2 * b + 1) = some (b, 0)) {x : Operand} (hx : flatO x = true) : VRel φ (evalO env x) (a.eval x) := by
  cases x with
  | tmp t => exact r.getD t
  | const v => exact flatC_rel hx φ
  | global g => exact .ptr 0 (ho g)
  | func f => exact .func _ (fun l => by simp) rfl rfl (fun i h => by simp at h) (fun i h => by simp at h)

theorem EnvRel.put {φ : Phi} {env : Env} {a : Act} (r : EnvRel φ env a) (d : Option Tmp) {v v' : Value} (hv : VRel φ v v') : EnvRel φ (putO env d v) (a.put d v') := by
  cases d with
  | none => exact r
  | some d =>
    unfold putO Act.put
    refine ⟨by simp [r.size], fun t => ?_⟩
    simp only
    rw [Env.get_set, Array.getD_eq_getD_getElem?, Array.getElem?_setIfInBounds, r.size]
    by_cases h : d = t
    · subst h
      by_cases hlt : d < a.tmps.size
      · simp only [hlt, and_self, if_true]; exact hv
      · rw [if_neg (fun q => hlt q.2)]
        simp only [hlt, if_true, if_false]
        have := r.getD d
        rw [Array.getD_eq_getD_getElem?, Array.getElem?_eq_none (Nat.le_of_not_lt hlt)] at this
        exact this
    · rw [if_neg (fun q => h q.1.symm), if_neg h, ← Array.getD_eq_getD_getElem?]
      exact r.getD t

theorem wanted_rel {φ : Phi} {env : Env} {a : Act} {ops : Array Oper} {o : Oper} {s : SOp} (hs : stripOp ops o = some s) (hk : guardKnown env s.guard = true)
    (r : ∀ t, s.guard.any (·.1 == t) = true → VRel φ (env.get t) (a.tmps.getD t undef)) :
    Region.wanted o (yielded ops a.tmps) = wantedE env s.guard := by
  unfold stripOp at hs
  split at hs
  · split at hs
    · rename_i hg
      cases hs
      simp [Region.wanted, hg, wantedE]
    · rename_i j want hg
      split at hs
      · rename_i t ht
        cases hs
        have hr := r t (by simp)
        simp only [Region.wanted, hg, wantedE, yielded, ht, Option.bind_some]
        simp only [guardKnown] at hk
        cases ha : a.tmps[t]? with
        | none =>
          have e2 : a.tmps.getD t undef = undef := by rw [Array.getD_eq_getD_getElem?, ha]; rfl
          rw [e2] at hr
          unfold undef at hr
          generalize env.get t = v at hr hk
          cases v <;> first | (cases hk; done) | (cases hr; done) | (cases hr; rfl)
        | some u =>
          have e2 : a.tmps.getD t undef = u := by rw [Array.getD_eq_getD_getElem?, ha]; rfl
          rw [e2] at hr
          generalize env.get t = v at hr hk
          cases v <;> first | (cases hk; done) | (cases hr; simp)
      · cases hs
  · cases hs

theorem strip_dst {ops : Array Oper} {o : Oper} {s : SOp} (hs : stripOp ops o = some s) : s.dst = o.dst ∧ s.op = o.op ∧ ∀ x ∈ o.op.operands, flatO x = true := by
  unfold stripOp at hs
  split at hs
  · rename_i hf
    have hf' : ∀ x ∈ o.op.operands, flatO x = true := fun x hx => List.all_eq_true.1 hf x (by simpa using hx)
    split at hs
    · cases hs; exact ⟨rfl, rfl, hf'⟩
    · split at hs
      · cases hs; exact ⟨rfl, rfl, hf'⟩
      · cases hs
  · cases hs

/-- No fence but the kind of the frame: a plain one, or a round's. -/
def FW (r : Option Nat) : Fence := { fn := fun _ => True, depth := none, alive := false, round := r }

theorem callsIn_FW {r r' : Option Nat} {n n' : Nat} {f : FuncId} {args : Array Value} {w : World} {R : Ending → World → Prop} (h : CallsIn (FW r) n P f args w R) : CallsIn (FW r') n' P f args w R :=
  ⟨trivial, fun cs _ => h.2 cs (fun d hd => by simp [FW] at hd)⟩
theorem roundIn_FW {r r' : Option Nat} {n n' : Nat} {l : Nat} {f : FuncId} {tmps : Array Value} {as body : Code} {w : World} {R : Ending → World → Prop} (h : RoundIn (FW r) n P l f tmps as body w R) : RoundIn (FW r') n' P l f tmps as body w R :=
  ⟨trivial, fun c cs _ => h.2 c cs (fun d hd => by simp [FW] at hd)⟩

/-- A loop's record in the world is what the abstract one says, and its next round may begin. -/
structure LoopRel (P : Program) (φ : Phi) (w : World) (L : LoopA) (c : Nat) : Prop where
  out : ∃ lp : Loop, w.heap[c]? = some (.loop lp) ∧ lp.state = .ready ∧ lp.pending = none ∧ lp.params.toList = L.params ∧ EnvRel φ L.env { tmps := lp.tmps, defers := [] } ∧ strip P lp.assign = some L.assign ∧ strip P lp.body = some L.body

structure Loops (P : Program) (φ : Phi) (Γ : Gam) (w : World) : Prop where
  rec_ : ∀ b L, (b, L) ∈ Γ → ∃ c K, φ b = some (c, K) ∧ LoopRel P φ w L c
  inj : ∀ b L b' L' c K K', (b, L) ∈ Γ → (b', L') ∈ Γ → φ b = some (c, K) → φ b' = some (c, K') → b = b'

theorem Loops.ext {φ φ' : Phi} {Γ : Gam} {H H' : AHeap} {w w' : World} (h : Loops P φ Γ w) (r : Rel φ H w) (x : Ext φ H w φ' H' w') : Loops P φ' Γ w' := by
  constructor
  · intro b L hb
    obtain ⟨c, K, h1, ⟨lp, g1, g2, g3, g4, g5, g6⟩⟩ := h.rec_ b L hb
    have hlt : c < w.heap.size := (Array.getElem?_eq_some_iff.1 g1).1
    have hfr := (x.frame c hlt fun b2 y K2 e1 e2 => by
      obtain ⟨cs, e, fz, q, _⟩ := (r.blk b2 y c K2 e1 e2).out
      rw [g1] at q; cases q).1
    exact ⟨c, K, x.mono _ _ h1, ⟨lp, by rw [hfr]; exact g1, g2, g3, g4, g5.mono x.mono, g6⟩⟩
  · intro b L b' L' c K K' h1 h2 h3 h4
    have back : ∀ b L K, (b, L) ∈ Γ → φ' b = some (c, K) → φ b = some (c, K) := fun b L K hb hφ => by
      obtain ⟨c2, K2, e, _⟩ := h.rec_ b L hb
      rw [x.mono _ _ e] at hφ; cases hφ; exact e
    exact h.inj b L b' L' c K K' h1 h2 (back _ _ _ h1 h3) (back _ _ _ h2 h4)
theorem Loops.draw {φ : Phi} {Γ : Gam} {w : World} (h : Loops P φ Γ w) (n : Nat) : Loops P φ Γ { w with drawn := n } :=
  ⟨fun b L hb => let ⟨c, K, h1, ⟨lp, g⟩⟩ := h.rec_ b L hb; ⟨c, K, h1, ⟨lp, g⟩⟩, h.inj⟩

/-- What comes of a call, or of a round. -/
def After (φ : Phi) (H : AHeap) (w : World) (v : Value) (H' : AHeap) (e : Ending) (w' : World) : Prop :=
  ∃ φ' v', e = .returned v' ∧ VRel φ' v v' ∧ Rel φ' H' w' ∧ Ext φ H w φ' H' w'

/-- Abstract calls and rounds stand for the model's. -/
structure CallOK (P : Program) (call : ACalls) : Prop where
  fn : ∀ Γ f args H v H', call.fn Γ f args H = some (v, H') → ∀ φ w (args' : Array Value), Rel φ H w → Loops P φ Γ w → VRels φ args args'.toList →
    CallsIn (FW none) 0 P f args' w (After φ H w v H')
  yl : ∀ Γ b args H v H', call.yl Γ b args H = some (v, H') → ∀ φ w c K (args' : Array Value), Rel φ H w → Loops P φ Γ w → φ b = some (c, K) → VRels φ args args'.toList →
    ∃ f tmps as body, (Instr.yield c args').run P w = .ok (.round c f tmps as body) w ∧ RoundIn (FW none) 0 P c f tmps as body w (After φ H w v H')

/-- One operation. -/
theorem sim_step0 {X : XT} (hX : ExtOK P X) {call : ACalls} (hc : CallOK P call) {ops : Array Oper} {o : Oper} {s : SOp} (hs : stripOp ops o = some s) {φ : Phi} {Γ : Gam} {env env' : Env} {H H' : AHeap} {a : Act} {w : World}
    (r : Rel φ H w) (rl : Loops P φ Γ w) (hρ : ORels φ (evalO env) a.eval o.op) (hwt : Region.wanted o (yielded ops a.tmps) = wantedE env s.guard) (h : stepOp X P call Γ s env H = some (env', H')) {ro : Option Nat} {n : Nat} {K : Act → World → Prop} {Q : Exit → Act → World → Prop}
    (hK : ∀ φ' v v' w', env' = putO env s.dst v → VRel φ' v v' → Rel φ' H' w' → Ext φ H w φ' H' w' → K (a.put o.dst v') w') :
    if Region.wanted o (yielded ops a.tmps) then o.wpIn (FW ro) n P a w K Q else (∀ f, o.about P w a.eval = some f → (FW ro).fn f) ∧ K (a.put o.dst undef) w := by
  obtain ⟨hd, hop, hfl⟩ := strip_dst hs
  unfold stepOp at h
  split at h
  · cases h
  rw [hwt]
  split at h
  · rename_i hw
    rw [if_pos hw]
    rw [hop] at h
    have hnd : aop X P (evalO env) H o.op ≠ none → (o.semAt ro a.eval).run P w = (execOp a.eval o).run P w := fun hne => by
      rw [Oper.semAt_eq]
      intro c hc'
      rw [hc'] at hne
      exact hne rfl
    refine ⟨fun _ _ => trivial, ?_⟩
    show o.uponIn (FW ro) n P a K Q ((o.semAt ro a.eval).run P w)
    split at h
    · rename_i v H2 ha
      cases h
      rw [hnd (by rw [ha]; simp)]
      obtain ⟨φ', v', nx, w', h1, h2, h3, h4, h5⟩ := sim_aop_val (P := P) hX r hρ ha
      have hk := hK φ' v v' w' rfl h3 h4 h5
      rw [h1]
      rcases h2 with rfl | ⟨rfl, rfl⟩
      · exact hk
      · exact hk
    · rename_i f args H2 ha
      rw [hnd (by rw [ha]; simp)]
      obtain ⟨rfl, args', h1, h2⟩ := sim_aop_call (P := P) (w := w) (H := H) hρ ha
      split at h
      · rename_i v H3 hcall
        cases h
        rw [h1, Oper.uponIn_enter]
        refine ⟨fun hd => by simp [FW] at hd, CallsIn.mono (callsIn_FW (hc.fn _ _ _ _ _ _ hcall φ w args' r rl h2)) ?_⟩
        rintro e w' ⟨φ', v', rfl, h3, h4, h5⟩
        exact hK φ' v v' w' rfl h3 h4 h5
      · cases h
    · rename_i b args H2 ha
      rw [hnd (by rw [ha]; simp)]
      obtain ⟨rfl, c, K0, args', hb, h1, h2⟩ := sim_aop_yield (P := P) (w := w) (H := H) hρ ha
      split at h
      · rename_i v H3 hcall
        cases h
        obtain ⟨f, tmps, as, body, g1, g2⟩ := hc.yl _ _ _ _ _ _ hcall φ w c K0 args' r rl hb h2
        rw [h1, g1, Oper.uponIn_round]
        refine ⟨fun hd => by simp [FW] at hd, RoundIn.mono (roundIn_FW g2) ?_⟩
        rintro e w' ⟨φ', v', rfl, h3, h4, h5⟩
        exact hK φ' v v' w' rfl h3 h4 h5
      · cases h
    · cases h
  · rename_i hw
    rw [if_neg (by simpa using hw)]
    cases h
    exact ⟨fun _ _ => trivial, hK φ undef undef w rfl (flatC_rel (by decide) _) r (Ext.refl _ _ _)⟩

/-- One operation in the order of the text. -/
theorem sim_step {X : XT} (hX : ExtOK P X) {call : ACalls} (hc : CallOK P call) {ops : Array Oper} {o : Oper} {s : SOp} (hs : stripOp ops o = some s) {φ : Phi} {Γ : Gam} {env env' : Env} {H H' : AHeap} {a : Act} {w : World}
    (r : Rel φ H w) (rl : Loops P φ Γ w) (re : EnvRel φ env a) (h : stepOp X P call Γ s env H = some (env', H')) {ro : Option Nat} {n : Nat} {K : Act → World → Prop} {Q : Exit → Act → World → Prop}
    (hK : ∀ φ' v v' w', env' = putO env s.dst v → VRel φ' v v' → EnvRel φ' env' (a.put o.dst v') → Rel φ' H' w' → Ext φ H w φ' H' w' → K (a.put o.dst v') w') :
    if Region.wanted o (yielded ops a.tmps) then o.wpIn (FW ro) n P a w K Q else (∀ f, o.about P w a.eval = some f → (FW ro).fn f) ∧ K (a.put o.dst undef) w := by
  obtain ⟨hd, hop, hfl⟩ := strip_dst hs
  have hgk : guardKnown env s.guard = true := by
    unfold stepOp at h
    split at h
    · cases h
    · rename_i hg; simpa using hg
  exact sim_step0 hX hc hs r rl (fun x hx => re.eval r.old (hfl x hx)) (wanted_rel hs hgk fun t _ => re.getD t) h fun φ' v v' w' h1 h2 h3 h4 => hK φ' v v' w' h1 h2 (by rw [h1, hd]; exact (re.mono h4.mono).put _ h2) h3 h4

theorem put_defers' (a : Act) (d : Option Tmp) (v : Value) : (a.put d v).defers = a.defers := by cases d <;> rfl

/-- A region in the order of its text. -/
theorem sim_list {X : XT} (hX : ExtOK P X) {call : ACalls} (hc : CallOK P call) {ops : Array Oper} {Q : Exit → Act → World → Prop} {ro : Option Nat} {n : Nat} {Γ : Gam} : ∀ {l : List Oper} {sl : List SOp} {φ : Phi} {env env' : Env} {H H' : AHeap} {a : Act} {w : World}, l.mapM (stripOp ops) = some sl →
    Rel φ H w → Loops P φ Γ w → EnvRel φ env a → execOps X P call Γ sl env H = some (env', H') →
    (∀ φ' a' w', a'.defers = a.defers → EnvRel φ' env' a' → Rel φ' H' w' → Ext φ H w φ' H' w' → Q .normal a' w') → wpListIn (FW ro) n P ops Q l a w
  | [], sl, φ, env, env', H, H', a, w, hl, r, rl, re, h, hQ => by
    simp only [List.mapM_nil, Option.pure_def, Option.some.injEq] at hl
    subst hl
    cases h
    exact hQ φ a w rfl re r (Ext.refl _ _ _)
  | o :: l, sl, φ, env, env', H, H', a, w, hl, r, rl, re, h, hQ => by
    simp only [List.mapM_cons, Option.bind_eq_bind, Option.bind_eq_some_iff, Option.pure_def, Option.some.injEq] at hl
    obtain ⟨s, hs, sl, hsl, rfl⟩ := hl
    simp only [execOps] at h
    split at h
    · rename_i env1 H1 h1
      refine wpListIn_step fun K hK => ?_
      refine sim_step hX hc hs r rl re h1 fun φ' v v' w' _ _ re' r' x' => hK _ _ ?_
      exact sim_list hX hc hsl r' (rl.ext r x') re' h fun φ2 a2 w2 hd re2 r2 x2 => hQ φ2 a2 w2 (by rw [hd, put_defers']) re2 r2 (x'.trans x2)
    · cases h
end
end Go.Big
