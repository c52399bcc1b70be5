/-
  Calls and rounds: the abstract run of a program's functions stands for the model's.
-/
import Derived.Test.YtjkbcgeoglnbgaaGreatBigN
set_option linter.unusedVariables false
set_option linter.unusedSimpArgs false
namespace Go.Big
section
variable {P : Program}

theorem setAll_rel {φ : Phi} : ∀ (ps : List Tmp) {args args' : List Value} {env : Env} {tmps : Array Value}, EnvRel φ env { tmps := tmps, defers := [] } → VRels φ args args' →
    EnvRel φ (setAll env ps args) { tmps := (ps.zip args').foldl (fun tmps (x : Tmp × Value) => tmps.setIfInBounds x.1 x.2) tmps, defers := [] }
  | [], args, args', env, tmps, re, ra => by
    cases ra with
    | nil => exact re
    | cons h t => exact re
  | p :: ps, args, args', env, tmps, re, ra => by
    cases ra with
    | nil => exact re
    | cons h t => exact setAll_rel ps (re.put (some p) h) t

theorem fill_get (n : Nat) : ∀ (l : List Value) (i : Nat) (t : Tv) (k : Nat), Tv.get (pathOf k) (Env.fill n i l t) = if i ≤ k then (match l[k - i]? with | some v => v | none => Tv.get (pathOf k) t) else Tv.get (pathOf k) t
  | [], i, t, k => by simp [Env.fill]
  | v :: l, i, t, k => by
    unfold Env.fill
    rw [fill_get n l (i + 1) _ k, Tv.get_set]
    by_cases h : k = i
    · subst h
      rw [if_neg (by omega), if_pos rfl, if_pos (Nat.le_refl _)]; simp
    · have hp : pathOf k ≠ pathOf i := fun e => h (pathOf_inj e)
      rw [if_neg hp]
      by_cases h2 : i + 1 ≤ k
      · rw [if_pos h2, if_pos (by omega), show k - i = (k - (i + 1)) + 1 by omega]; simp
      · rw [if_neg h2, if_neg (by omega)]

theorem start_rel {φ : Phi} {args : List Value} {args' : Array Value} (ra : VRels φ args args'.toList) (n : Nat) :
    EnvRel φ (Env.start n args) { tmps := args' ++ Array.replicate (n - args'.size) undef, defers := [] } := by
  have hl := ra.length
  simp only [Array.length_toList] at hl
  refine ⟨by simp [Env.start, hl], fun t => ?_⟩
  unfold Env.get Env.start
  simp only
  rw [fill_get, if_pos (Nat.zero_le _), Nat.sub_zero, Tv.get_nil, Array.getD_eq_getD_getElem?]
  cases h : args[t]? with
  | some v =>
    obtain ⟨v', e1, e2⟩ := ra.get t v h
    have hlt : t < args'.size := by rw [← hl]; exact (List.getElem?_eq_some_iff.1 h).1
    rw [Array.getElem?_append_left hlt]
    simp only [Array.getElem?_toList] at e1
    rw [e1]; exact e2
  | none =>
    have hge : args'.size ≤ t := by rw [← hl]; exact List.getElem?_eq_none_iff.1 h
    rw [Array.getElem?_append_right hge, Array.getElem?_replicate]
    have hu : VRel φ undef undef := flatC_rel (by decide) _
    show VRel φ undef _
    by_cases hc : t - args'.size < n - args'.size
    · rw [if_pos hc]; exact hu
    · rw [if_neg hc]; exact hu

/-- The results of a function. -/
theorem sim_result {φ : Phi} {H : AHeap} {w : World} (r : Rel φ H w) {env : Env} {a : Act} (re : EnvRel φ env a) : ∀ {rs : List ResultVar} {vs : List Value}, rs.mapM (aresult P env H) = some vs →
    ∃ vs', (rs.mapM fun (x : ResultVar) => (match x with | .tmp t => pure (a.tmps.getD t undef) | .cell b t => do loadVar t (← asAddr (a.tmps.getD b undef)) : Sem Value)).run P w = .ok vs' w ∧ VRels φ vs vs'
  | [], vs, h => by simp at h; subst h; exact ⟨[], rfl, .nil⟩
  | x :: rs, vs, h => by
    simp only [List.mapM_cons, Option.bind_eq_bind, Option.bind_eq_some_iff, Option.pure_def, Option.some.injEq] at h
    obtain ⟨v, hv, vs, hvs, rfl⟩ := h
    obtain ⟨vs', h1, h2⟩ := sim_result r re hvs
    have hx : ∃ v', (match x with | .tmp t => pure (a.tmps.getD t undef) | .cell b t => do loadVar t (← asAddr (a.tmps.getD b undef)) : Sem Value).run P w = .ok v' w ∧ VRel φ v v' := by
      cases x with
      | tmp t =>
        simp only [aresult, Option.some.injEq] at hv
        subst hv
        exact ⟨_, rfl, re.getD t⟩
      | cell b t =>
        simp only [aresult] at hv
        have hb := re.getD b
        obtain ⟨v', e1, e2⟩ := sim_load (P := P) r hv hb
        refine ⟨v', ?_, e2⟩
        unfold loadOp at hv
        split at hv
        · rename_i b0 o0 hpt
          rw [hpt] at hb
          show (do loadVar t (← asAddr (a.tmps.getD b undef)) : Sem Value).run P w = _
          generalize a.tmps.getD b undef = q at hb e1 ⊢
          cases hb
          simpa [Instr.loadAt, Instr.sureAddr, asAddr] using e1
        · cases hv
    obtain ⟨v', k1, k2⟩ := hx
    refine ⟨v' :: vs', ?_, .cons k2 h2⟩
    simp only [List.mapM_cons, Sem.run_bind, k1, Result.andThen_ok, h1, Sem.run_pure]

theorem sim_results {φ : Phi} {H : AHeap} {w : World} (r : Rel φ H w) {env : Env} {a : Act} (re : EnvRel φ env a) {fn : Func} {v : Value} (h : aresults P fn.results.toList env H = some v) :
    ∃ v', (results fn a.tmps).run P w = .ok v' w ∧ VRel φ v v' := by
  unfold aresults at h
  have key : ∀ vs, fn.results.toList.mapM (aresult P env H) = some vs → ∃ vs', (results fn a.tmps).run P w = .ok (if h : vs'.toArray.size = 1 then vs'.toArray[0] else .tuple vs'.toArray) w ∧ VRels φ vs vs' := fun vs hvs => by
    obtain ⟨vs', h1, h2⟩ := sim_result (P := P) r re hvs
    refine ⟨vs', ?_, h2⟩
    unfold results
    rw [Array.mapM_eq_mapM_toList]
    simp only [Sem.run_bind, Sem.run_map, Sem.run_pure]
    refine (congrArg (fun q => Result.andThen (Result.andThen q fun a w' => Result.ok a.toArray w') fun vs w' => Result.ok (if h : vs.size = 1 then vs[0] else Value.tuple vs) w') h1).trans ?_
    rfl
  split at h
  · rename_i v0 hv0
    cases h
    obtain ⟨vs', h1, h2⟩ := key _ hv0
    cases h2 with
    | cons e t =>
      cases t
      exact ⟨_, h1, by simpa using e⟩
  · rename_i vs hne hvs
    cases h
    obtain ⟨vs', h1, h2⟩ := key _ hvs
    refine ⟨_, h1, ?_⟩
    have hl := h2.length
    rw [dif_neg]
    · exact VRel.of_tuple h2
    · intro h
      simp at h
      have : vs.length = 1 := by omega
      obtain ⟨x, rfl⟩ := List.length_eq_one_iff.1 this
      exact hne x rfl
  · cases h

/-- A frame on its way out, past its marks. -/
theorem leave_marks {fn : Func} {tmps : Array Value} {R : Ending → World → Prop} {φ0 : Phi} {H0 : AHeap} {w0 : World} {φ : Phi} {H : AHeap}
    (h : ∀ w', Rel φ H w' → Ext φ0 H0 w0 φ H w' → ∃ v, (results fn tmps).run P w' = .ok v w' ∧ R (.returned v) w') : ∀ (ds : List Deferred) (w : World), Marks w0.heap.size ds w → Rel φ H w → Ext φ0 H0 w0 φ H w → LeavesInM (FW none) 0 P fn tmps R ds .returning w
  | [], w, mk, r, x => h w r x
  | d :: ds, w, mk, r, x => by
    cases mk with
    | @cons q _ _ hm h1 hn t =>
      obtain ⟨w', k1, k2, k3⟩ := run_setObj (P := P) h1 (fun _ _ _ e => by cases e) (.deferred none)
      refine ⟨by simp, .inl ⟨q, w', rfl, ?_, ?_⟩⟩
      · simp [Instr.takeDeferred, run_getObj (P := P) h1 (fun _ _ _ e => by cases e), k1]
      · refine leave_marks h ds w' (t.keep fun q' hq' hw' => ?_) (r.obj k3 (fun _ _ _ e => by rw [h1] at e; cases e)) (x.obj k3 hm)
        rw [k3.other _ (fun e => hn _ hq' (by rw [e]))]
        exact hw'

structure Setup.OK (Y : Setup) : Prop where
  ext : ExtOK Y.P Y.X
  mixed : Y.P.follows .mixedOrders = true
  fn : ∀ f sf, Y.S f = some sf → ∃ fn c, Y.P.funcs[f]? = some fn ∧ fn.body = some c ∧ strip Y.P c = some sf.code ∧ fn.ntmps = sf.ntmps ∧ fn.results.toList = sf.results
  prim : ∀ f p, Y.prim f = some p → ∀ args H v H', p args H = some (v, H') → ∀ φ w (args' : Array Value), Rel φ H w → VRels φ args args'.toList → CallsIn (FW none) 0 Y.P f args' w (After φ H w v H')

/-- The abstract run of a program's functions stands for the model's. -/
theorem callsOK {Y : Setup} (ok : Y.OK) : ∀ n, CallOK Y.P (acalls Y n)
  | 0 => ⟨fun Γ f args H v H' h => by simp [acalls] at h, fun Γ b args H v H' h => by simp [acalls] at h⟩
  | n + 1 => by
    have ih := callsOK ok n
    constructor
    · intro Γ f args H v H' h φ w args' r rl ra
      simp only [acalls] at h
      split at h
      · rename_i p hp
        exact ok.prim f p hp _ _ _ _ h φ w args' r ra
      · split at h
        · cases h
        · rename_i sf hsf
          obtain ⟨fn, c, h1, h2, h3, h4, h5⟩ := ok.fn f sf hsf
          have hl := ra.length
          simp only [Array.length_toList] at hl
          have re : EnvRel φ (Env.start sf.ntmps args) { tmps := args' ++ Array.replicate (fn.ntmps - args'.size) undef, defers := [] } := by
            rw [h4]; exact start_rel ra _
          have go : ∀ {x e2 H2}, (x = .normal ∨ x = .ret) → exec Y.X Y.P (acalls Y n) n Γ sf.code (Env.start sf.ntmps args) H = some (x, e2, H2) → (aresults Y.P sf.results e2 H2).map (fun v => (v, H2)) = some (v, H') →
              CallsIn (FW none) 0 Y.P f args' w (After φ H w v H') := fun {x e2 H2} hx he hres => by
            simp only [Option.map_eq_some_iff, Prod.mk.injEq] at hres
            obtain ⟨v2, hv2, rfl, rfl⟩ := hres
            refine callsIn_of_wp_marks h1 h2 trivial ?_
            refine sim_code ok.ext ih ok.mixed c h3 (m := w.heap.size) (ro := none) r rl re (fun l hl => by cases hl) (.nil _) (Nat.le_refl _) he fun φ' a' w' b => ?_
            have post : LeavesInM (FW none) 0 Y.P fn a'.tmps (After φ H w v2 H2) a'.defers .returning w' := by
              refine leave_marks (fun w2 r2 x2 => ?_) _ _ b.marks b.r b.x
              obtain ⟨v', k1, k2⟩ := sim_results (P := Y.P) (fn := fn) r2 b.re (by rw [h5]; exact hv2)
              exact ⟨v', k1, φ', v', rfl, k2, r2, x2⟩
            rcases hx with rfl | rfl
            · exact post
            · exact post
          split at h
          · rename_i e2 H2 he; exact go (.inl rfl) he h
          · rename_i e2 H2 he; exact go (.inr rfl) he h
          · cases h
    · intro Γ b args H v H' h φ w c K args' r rl hb ra
      simp only [acalls] at h
      split at h
      · cases h
      · rename_i b' L hfind
        have hb' : b' = b := by have := List.find?_some hfind; simpa using this
        subst hb'
        have hmem : (b', L) ∈ Γ := List.mem_of_find?_eq_some hfind
        obtain ⟨c2, K2, q1, ⟨lp, g1, g2, g3, g4, g5, g6, g7⟩⟩ := rl.rec_ b' L hmem
        rw [hb] at q1; cases q1
        have hl := ra.length
        simp only [Array.length_toList] at hl
        split at h
        · rename_i hlen
          have hsz : args'.size = lp.params.size := by
            have : lp.params.toList.length = L.params.length := by rw [g4]
            simp only [Array.length_toList] at this
            omega
          split at h
          · rename_i e1 H1 hassign
            split at h
            · rename_i e2 H2 hbody
              cases h
              let tm := (lp.params.zip args').foldl (fun tmps (x : Tmp × Value) => tmps.setIfInBounds x.1 x.2) lp.tmps
              refine ⟨lp.fn, tm, lp.assign, lp.body, ?_, ?_⟩
              · simp only [Instr.yield, Sem.run_bind, getLoop_run g1, Result.andThen_ok]
                rw [if_neg (by simp [hsz])]
                rfl
              · have rl' : Loops Y.P φ (Γ.filter (·.1 != b')) w := ⟨fun b2 L2 h2 => rl.rec_ b2 L2 (List.mem_filter.1 h2).1, fun b1 L1 b2 L2 c K K' h1 h2 => rl.inj b1 L1 b2 L2 c K K' ((List.mem_filter.1 h1).1) (List.mem_filter.1 h2).1⟩
                have re : EnvRel φ (setAll L.env L.params args) { tmps := tm, defers := [] } := by
                  have := setAll_rel (φ := φ) L.params g5 ra
                  simp only [tm]
                  rw [← Array.foldl_toList, Array.toList_zip, g4]
                  exact this
                refine roundIn_of_wpIn trivial ?_
                show Code.wpIn (FW (some c)) 0 Y.P lp.assign _ _ _
                refine sim_code ok.ext ih ok.mixed lp.assign g6 (m := 0) (ro := some c) r rl' re (fun l hl => by cases hl; exact ⟨lp, g1⟩) (.nil _) (Nat.zero_le _) hassign fun φ1 a1 w1 b1 => ?_
                -- the record as it was
                have at1 : w1.heap[c]? = some (.loop lp) := by
                  rw [(b1.x.frame c (Array.getElem?_eq_some_iff.1 g1).1 fun b2 y K3 e1 e2 => by
                    obtain ⟨cs, e, fz, q, _⟩ := (r.blk b2 y c K3 e1 e2).out
                    rw [g1] at q; cases q).1]
                  exact g1
                obtain ⟨w2, k1, k2, k3⟩ := run_setObj (P := Y.P) at1 (fun _ _ _ e => by cases e) (.loop { lp with state := .busy })
                refine ⟨w2, by simp [Instr.beginRound, getLoop_run at1, k1, g2], ?_⟩
                have r2 : Rel φ1 H1 w2 := b1.r.obj k3 (fun _ _ _ e => by rw [at1] at e; cases e)
                have rl1 := rl'.ext r b1.x
                have rl2 : Loops Y.P φ1 (Γ.filter (·.1 != b')) w2 := by
                  refine ⟨fun b2 L2 h2 => ?_, rl1.inj⟩
                  obtain ⟨c2, K2, p1, ⟨lp2, p2, p3⟩⟩ := rl1.rec_ b2 L2 h2
                  refine ⟨c2, K2, p1, ⟨lp2, ?_, p3⟩⟩
                  rw [k3.other _ ?_]
                  · exact p2
                  · intro e
                    subst e
                    have hbφ := b1.x.mono _ _ hb
                    have := (rl.ext r b1.x).inj b2 L2 b' L c2 K2 K (List.mem_filter.1 h2).1 hmem p1 hbφ
                    subst this
                    simp at h2
                show Code.wpIn (FW (some c)) 0 Y.P lp.body _ _ _
                refine sim_code ok.ext ih ok.mixed lp.body g7 (m := 0) (ro := some c) r2 rl2 b1.re (fun l hl => by cases hl; exact ⟨_, k2⟩) (b1.marks.keep fun q hq hw => ?_) (Nat.zero_le _) hbody fun φ3 a3 w3 b3 => ?_
                · rw [k3.other _ (fun e => by subst e; rw [at1] at hw; cases hw)]; exact hw
                · have at3 : w3.heap[c]? = some (.loop { lp with state := .busy }) := by
                    rw [(b3.x.frame c (Array.getElem?_eq_some_iff.1 k2).1 fun b2 y K3 e1 e2 => by
                      obtain ⟨cs, e, fz, q, _⟩ := (r2.blk b2 y c K3 e1 e2).out
                      rw [k2] at q; cases q).1]
                    exact k2
                  obtain ⟨w4, j1, j2, j3⟩ := run_setObj (P := Y.P) at3 (fun _ _ _ e => by cases e) (.loop { lp with state := .ready, pending := none })
                  have hlp : ({ lp with state := .ready, pending := none } : Loop) = lp := by
                    cases lp; simp only at g2 g3; subst g2; subst g3; rfl
                  refine ⟨.bool true, w4, by simp [Instr.endRound, getLoop_run at3, j1], φ3, .bool true, rfl, .bool true, b3.r.obj j3 (fun _ _ _ e => by rw [at3] at e; cases e), ?_⟩
                  refine Ext.detour b1.x k3 b3.x j3 (by rw [j2, hlp, g1]) fun b2 y K3 e1 e2 => ?_
                  obtain ⟨cs, e, fz, q, _⟩ := (b3.r.blk b2 y c K3 e1 e2).out
                  rw [at3] at q; cases q
            · cases h
          · cases h
        · cases h
end
end Go.Big
