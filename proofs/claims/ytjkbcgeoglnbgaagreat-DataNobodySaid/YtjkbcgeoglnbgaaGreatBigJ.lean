/-
  One operation of the code: the abstract one stands for the model's.
-/
import Derived.Test.YtjkbcgeoglnbgaaGreatBigI
set_option linter.unusedVariables false
set_option linter.unusedSimpArgs false
namespace Go.Big
section
variable {P : Program}

/-- The operands' values are alike. -/
def ORels (φ : Phi) (ρ ρ' : Operand → Value) (op : Op) : Prop := ∀ x ∈ op.operands, VRel φ (ρ x) (ρ' x)

theorem VRels.map_ops {φ : Phi} {ρ ρ' : Operand → Value} : ∀ {l : List Operand}, (∀ x ∈ l, VRel φ (ρ x) (ρ' x)) → VRels φ (l.map ρ) (l.map ρ')
  | [], _ => .nil
  | x :: l, h => .cons (h x (by simp)) (VRels.map_ops fun y hy => h y (by simp [hy]))
theorem Parts.map_ops {φ : Phi} {ρ ρ' : Operand → Value} : ∀ {l : List (Nat × Operand)}, (∀ x ∈ l.map (·.2), VRel φ (ρ x) (ρ' x)) → Parts φ (l.map fun (i, x) => (i, ρ x)) (l.map fun (i, x) => (i, ρ' x))
  | [], _ => .nil
  | (i, x) :: l, h => .cons i (h x (by simp)) (Parts.map_ops fun y hy => h y (by simp at hy ⊢; exact .inr hy))

/-- The model's run of an operation gives a value that is alike. -/
def SimVal (P : Program) (φ : Phi) (H : AHeap) (w : World) (s : Sem Next) (v : Value) (H' : AHeap) : Prop :=
  ∃ φ' v' nx w', s.run P w = .ok nx w' ∧ (nx = .value v' ∨ (nx = .skip ∧ v' = undef)) ∧ VRel φ' v v' ∧ Rel φ' H' w' ∧ Ext φ H w φ' H' w'

theorem SimVal.of {φ : Phi} {H H' : AHeap} {w : World} {s : Sem Value} {v : Value} (h : Sims P φ H w s v H') : SimVal P φ H w (do pure (.value (← s))) v H' := by
  obtain ⟨φ', v', w', h1, h2, h3, h4⟩ := h
  exact ⟨φ', v', .value v', w', by simp [h1], .inl rfl, h2, h3, h4⟩
theorem SimVal.pure {φ : Phi} {H : AHeap} {w : World} (r : Rel φ H w) {s : Sem Value} {v : Value} (h : ∃ v', s.run P w = .ok v' w ∧ VRel φ v v') : SimVal P φ H w (do pure (.value (← s))) v H := by
  obtain ⟨v', h1, h2⟩ := h
  exact ⟨φ, v', .value v', w, by simp [h1], .inl rfl, h2, r, Ext.refl _ _ _⟩

theorem sim_builtin {φ : Phi} {H H' : AHeap} {w : World} (r : Rel φ H w) {b : Builtin} {ts : Array TypeId} {ty : TypeId} {cs : Array Bool} {l l' : List Value} {v : Value} (h : builtinOp P b ts l H = some (v, H')) (hl : VRels φ l l') :
    SimVal P φ H w (builtin b ts ty cs l'.toArray) v H' := by
  unfold builtinOp at h
  split at h
  · cases hl with
    | cons ha hl => cases hl with
      | cons hb hl => cases hl; exact SimVal.of (sim_append r h ha hb)
  · cases hl with
    | cons ha hl => cases hl with
      | cons hb hl => cases hl; exact SimVal.of (sim_copy r h ha hb)
  · cases hl with
    | cons ha hl => cases hl; exact SimVal.of (sim_clear r h ha)
  · cases hl with
    | cons ha hl =>
      cases hl
      simp only [Option.map_eq_some_iff, Prod.mk.injEq] at h
      obtain ⟨x, hx, rfl, rfl⟩ := h
      obtain ⟨h1, h2⟩ := sim_len (P := P) (ty := ty) (w := w) hx ha
      exact SimVal.pure r ⟨_, h1, h2⟩
  · cases hl with
    | cons ha hl =>
      cases hl
      simp only [Option.map_eq_some_iff, Prod.mk.injEq] at h
      obtain ⟨x, hx, rfl, rfl⟩ := h
      obtain ⟨h1, h2⟩ := sim_cap (P := P) (ty := ty) (w := w) hx ha
      exact SimVal.pure r ⟨_, h1, h2⟩
  · simp only [Option.map_eq_some_iff, Prod.mk.injEq] at h
    obtain ⟨x, hx, rfl, rfl⟩ := h
    cases hl with
    | nil => cases hx
    | cons ha hl =>
      obtain ⟨v', h1, h2⟩ := sim_foldM (P := P) (w := w) (fun _ _ _ _ _ => sim_max2) hl ha hx
      exact SimVal.pure r ⟨v', by simpa [Builtin.max_] using h1, h2⟩
  · simp only [Option.map_eq_some_iff, Prod.mk.injEq] at h
    obtain ⟨x, hx, rfl, rfl⟩ := h
    cases hl with
    | nil => cases hx
    | cons ha hl =>
      obtain ⟨v', h1, h2⟩ := sim_foldM (P := P) (w := w) (fun _ _ _ _ _ => sim_min2) hl ha hx
      exact SimVal.pure r ⟨v', by simpa [Builtin.min_] using h1, h2⟩
  · cases h

theorem run_callFunc {f : FuncId} (h : enterable P f = true) (args : Array Value) (w : World) : (callFunc f args).run P w = .ok (.enter f args) w := by
  unfold enterable at h
  split at h
  · rename_i fn hf
    simp only [Bool.and_eq_true, Bool.not_eq_true'] at h
    obtain ⟨h1, h2⟩ := h
    have h3 : fn.body ≠ none := by cases hb : fn.body <;> simp_all
    have h4 : fn.name ≠ "runtime.NumGoroutine" := by simpa using h2
    simp [callFunc, hf, h3, h4]
  · cases h

theorem arr_map_list {φ : Phi} {ρ ρ' : Operand → Value} {xs : Array Operand} (h : ∀ x ∈ xs, VRel φ (ρ x) (ρ' x)) : VRels φ (xs.map ρ).toList (xs.map ρ').toList := by
  rw [Array.toList_map, Array.toList_map]
  exact VRels.map_ops fun x hx => h x (by simpa using hx)

/-- What stands for functions without a Go body does what they do. -/
def ExtOK (P : Program) (X : XT) : Prop :=
  ∀ f g, X f = some g → ∀ args H v H', g args H = some (v, H') → ∀ φ w (args' : Array Value), Rel φ H w → VRels φ args args'.toList →
    ∃ φ' v' w', (callFunc f args').run P w = .ok (.value v') w' ∧ VRel φ' v v' ∧ Rel φ' H' w' ∧ Ext φ H w φ' H' w'

theorem sim_aop_val {X : XT} (hX : ExtOK P X) {φ : Phi} {H H' : AHeap} {w : World} (r : Rel φ H w) {o : Oper} {ρ ρ' : Operand → Value} (hρ : ORels φ ρ ρ' o.op) {v : Value} (h : aop X P ρ H o.op = some (.val v, H')) :
    SimVal P φ H w (execOp ρ' o) v H' := by
  obtain ⟨dst, op, ty, pos, after, guard⟩ := o
  simp only at h hρ
  unfold ORels at hρ
  cases op <;> simp only [aop] at h <;> simp only [Op.operands] at hρ <;> simp only [execOp] <;> (try (cases h; done))
  case move x =>
    cases h
    exact ⟨φ, _, _, w, rfl, .inl rfl, hρ x (by simp), r, Ext.refl _ _ _⟩
  case assign x =>
    cases h
    exact ⟨φ, _, _, w, rfl, .inl rfl, hρ x (by simp), r, Ext.refl _ _ _⟩
  case pick c a b =>
    split at h
    · rename_i t ht
      cases h
      have hc := hρ c (by simp)
      rw [ht] at hc
      generalize hc' : ρ' c = c' at hc
      cases hc
      refine ⟨φ, if t then ρ' a else ρ' b, .value (if t then ρ' a else ρ' b), w, ?_, .inl rfl, ?_, r, Ext.refl _ _ _⟩
      · simp [hc', asBool]
      · cases t
        · exact hρ b (by simp)
        · exact hρ a (by simp)
    · cases h
  case alloc t =>
    simp only [Option.map_eq_some_iff, Prod.mk.injEq, ARes.val.injEq] at h
    obtain ⟨z, hz, rfl, rfl⟩ := h
    obtain ⟨i, zv, hi, hzv, hzs, rfl⟩ := zeroOf_spec hz
    have := sim_newVar (P := P) r (t := t) (v' := zv) (zeroOf_flat hz φ)
    obtain ⟨φ', v', w', h1, h2⟩ := this
    refine SimVal.of ⟨φ', v', w', ?_, h2⟩
    simp [Instr.alloc, run_zeroValue' hi hzv] at h1 ⊢
    exact h1
  case box t x =>
    simp only [Option.some.injEq, Prod.mk.injEq, ARes.val.injEq] at h
    obtain ⟨rfl, rfl⟩ := h
    exact SimVal.of (sim_newVar r (hρ x (by simp)).cells)
  case build t ps =>
    simp only [Option.map_eq_some_iff, Prod.mk.injEq, ARes.val.injEq] at h
    obtain ⟨u, hu, rfl, rfl⟩ := h
    refine SimVal.pure r (sim_build r hu ?_)
    rw [Array.toList_map]
    exact Parts.map_ops fun x hx => hρ x (by simpa using hx)
  case buildSlice t n ps =>
    simp only [Option.map_eq_some_iff, Prod.mk.injEq, ARes.val.injEq, Prod.exists] at h
    obtain ⟨u, H2, hu, rfl, rfl⟩ := h
    refine SimVal.of (sim_buildSlice r hu ?_)
    rw [Array.toList_map]
    exact Parts.map_ops fun x hx => hρ x (by simpa using hx)
  case load t a =>
    simp only [Option.map_eq_some_iff, Prod.mk.injEq, ARes.val.injEq] at h
    obtain ⟨u, hu, rfl, rfl⟩ := h
    exact SimVal.pure r (sim_load r hu (hρ a (by simp)))
  case store t a x =>
    simp only [Option.map_eq_some_iff, Prod.mk.injEq, ARes.val.injEq] at h
    obtain ⟨u, hu, rfl, rfl⟩ := h
    obtain ⟨w', h1, h2, h3⟩ := sim_store (P := P) r hu (hρ a (by simp)) (hρ x (by simp))
    exact ⟨φ, undef, .skip, w', by simp [h1], .inr ⟨rfl, rfl⟩, flatC_rel (by decide) _, h2, h3⟩
  case nilCheck x =>
    have hx := hρ x (by simp)
    split at h
    · rename_i a ha
      cases h
      rw [ha] at hx
      generalize hx' : ρ' x = x' at hx
      cases hx with
      | ptr o hb => exact ⟨φ, _, _, w, rfl, .inl rfl, .ptr o hb, r, Ext.refl _ _ _⟩
    · rename_i f a b ha
      cases h
      rw [ha] at hx
      generalize hx' : ρ' x = x' at hx
      cases hx with
      | func fn hy h1 h2 h3 h4 => exact ⟨φ, _, _, w, rfl, .inl rfl, .func _ hy h1 h2 h3 h4, r, Ext.refl _ _ _⟩
    · cases h
  case binOp op t x y yt =>
    simp only [Option.map_eq_some_iff, Prod.mk.injEq, ARes.val.injEq] at h
    obtain ⟨u, hu, rfl, rfl⟩ := h
    obtain ⟨h1, h2, h3⟩ := sim_bin (P := P) hu (hρ x (by simp)) (hρ y (by simp)) x y w
    exact SimVal.pure r ⟨u, by simp [h1, h2], h3⟩
  case unOp op t x =>
    simp only [Option.map_eq_some_iff, Prod.mk.injEq, ARes.val.injEq] at h
    obtain ⟨u, hu, rfl, rfl⟩ := h
    obtain ⟨h1, h2⟩ := sim_un (P := P) hu (hρ x (by simp)) w
    exact SimVal.pure r ⟨u, h1, h2⟩
  case convert s d x =>
    simp only [Option.map_eq_some_iff, Prod.mk.injEq, ARes.val.injEq, Prod.exists] at h
    obtain ⟨u, H2, hu, rfl, rfl⟩ := h
    exact SimVal.of (sim_conv r hu (hρ x (by simp)))
  case makeFunc fn first captured =>
    cases fn <;> simp only at h <;> (try (cases h; done))
    rename_i fid
    simp only [Option.some.injEq, Prod.mk.injEq, ARes.val.injEq] at h
    obtain ⟨rfl, rfl⟩ := h
    refine SimVal.pure r ⟨_, rfl, ?_⟩
    have h1 := arr_map_list (φ := φ) (ρ := ρ) (ρ' := ρ') (xs := first) fun x hx => hρ x (by simp [hx])
    have h2 := arr_map_list (φ := φ) (ρ := ρ) (ρ' := ρ') (xs := captured) fun x hx => hρ x (by simp [hx])
    have conv : ∀ {a a' : Array Value}, VRels φ a.toList a'.toList → ∀ (i : Nat) (h : i < a.size) (h' : i < a'.size), VRel φ a[i] a'[i] := fun {a a'} hh i hi hi' => by
      obtain ⟨v', e1, e2⟩ := hh.get i a[i] (by simp [Array.getElem?_eq_getElem hi])
      have : a'[i] = v' := by simpa [Array.getElem?_eq_getElem hi'] using e1
      exact this ▸ e2
    exact .func _ (fun l => by simp) (by simp) (by simp) (conv h1) (conv h2)
  case makeSlice t l c =>
    simp only [Option.map_eq_some_iff, Prod.mk.injEq, ARes.val.injEq, Prod.exists] at h
    obtain ⟨u, H2, hu, rfl, rfl⟩ := h
    exact SimVal.of (sim_makeSlice r hu (hρ l (by simp)) (hρ c (by simp)))
  case slice t x lo hi mx =>
    simp only [Option.map_eq_some_iff, Prod.mk.injEq, ARes.val.injEq] at h
    obtain ⟨u, hu, rfl, rfl⟩ := h
    have hO : ∀ y : Option Operand, (∀ z ∈ y, VRel φ (ρ z) (ρ' z)) → ORel φ (y.map ρ) (y.map ρ') := fun y hy => by
      cases y with
      | none => exact .none
      | some z => exact .some (hy z rfl)
    exact SimVal.pure r (sim_slice r hu (hρ x (by simp)) (hO _ fun z hz => hρ z (by simp [Option.mem_def.1 hz])) (hO _ fun z hz => hρ z (by simp [Option.mem_def.1 hz])) (hO _ fun z hz => hρ z (by simp [Option.mem_def.1 hz])))
  case fieldAddr s x f =>
    simp only [Option.map_eq_some_iff, Prod.mk.injEq, ARes.val.injEq] at h
    obtain ⟨u, hu, rfl, rfl⟩ := h
    exact SimVal.pure r (sim_fieldAddr hu (hρ x (by simp)) w)
  case field s x f =>
    simp only [Option.map_eq_some_iff, Prod.mk.injEq, ARes.val.injEq] at h
    obtain ⟨u, hu, rfl, rfl⟩ := h
    exact SimVal.pure r (sim_field hu (hρ x (by simp)) w)
  case indexAddr t x i =>
    simp only [Option.map_eq_some_iff, Prod.mk.injEq, ARes.val.injEq] at h
    obtain ⟨u, hu, rfl, rfl⟩ := h
    exact SimVal.pure r (sim_indexAddr hu (hρ x (by simp)) (hρ i (by simp)) w)
  case index t x i =>
    simp only [Option.map_eq_some_iff, Prod.mk.injEq, ARes.val.injEq] at h
    obtain ⟨u, hu, rfl, rfl⟩ := h
    exact SimVal.pure r (sim_index hu (hρ x (by simp)) (hρ i (by simp)) w)
  case extract x i =>
    simp only [Option.map_eq_some_iff, Prod.mk.injEq, ARes.val.injEq] at h
    obtain ⟨u, hu, rfl, rfl⟩ := h
    exact SimVal.pure r (sim_extract hu (hρ x (by simp)) w)
  case call c =>
    unfold callOp at h
    obtain ⟨callee, args, argTypes⟩ := c
    cases callee with
    | builtin b =>
      simp only [Option.map_eq_some_iff, Prod.mk.injEq, ARes.val.injEq, Prod.exists] at h
      obtain ⟨u, H2, hu, rfl, rfl⟩ := h
      have hl := arr_map_list (φ := φ) (ρ := ρ) (ρ' := ρ') (xs := args) fun x hx => hρ x (by simp [Call.operands, hx])
      have he : (args.map ρ).toList = args.toList.map ρ := Array.toList_map
      rw [he] at hl
      have := fun cs => sim_builtin (P := P) (ty := ty) (cs := cs) r hu hl
      simp only [Array.toArray_toList] at this
      exact this _
    | value f =>
      simp only at h
      split at h
      · rename_i f2 first captured hg
        split at h
        · cases h
        · split at h
          · rename_i g2 hx2
            simp only [Option.map_eq_some_iff, Prod.mk.injEq, ARes.val.injEq, Prod.exists] at h
            obtain ⟨u, H2, hu, rfl, rfl⟩ := h
            have hgr := hρ f (by simp [Call.operands])
            rw [hg] at hgr
            generalize hg' : ρ' f = g' at hgr
            cases hgr with
            | func fn hy h1 h2 h3 h4 =>
            rename_i first' captured'
            have hargs : VRels φ (first.toList ++ args.toList.map ρ ++ captured.toList) (first' ++ args.map ρ' ++ captured').toList := by
              rw [Array.toList_append, Array.toList_append]
              refine ((VRels.of_arr h1 h3).append ?_).append (VRels.of_arr h2 h4)
              have := arr_map_list (φ := φ) (ρ := ρ) (ρ' := ρ') (xs := args) fun x hx => hρ x (by simp [Call.operands, hx])
              rwa [Array.toList_map] at this
            obtain ⟨φ', v', w', k1, k2, k3, k4⟩ := hX _ _ hx2 _ _ _ _ hu φ w _ r hargs
            refine ⟨φ', v', .value v', w', ?_, .inl rfl, k2, k3, k4⟩
            simp only [Sem.run_bind, resolve, hg', Deferred.ofValue, Sem.run_pure, Result.andThen_ok, invoke]
            exact k1
          · cases h
      · split at h <;> cases h
      · cases h
    | invoke a b => cases h

theorem sim_aop_call {X : XT} {φ : Phi} {H H' : AHeap} {w : World} {o : Oper} {ρ ρ' : Operand → Value} (hρ : ORels φ ρ ρ' o.op) {f : FuncId} {args : List Value} (h : aop X P ρ H o.op = some (.enter f args, H')) :
    H' = H ∧ ∃ args', (execOp ρ' o).run P w = .ok (.enter f args') w ∧ VRels φ args args'.toList := by
  obtain ⟨dst, op, ty, pos, after, guard⟩ := o
  simp only at h hρ
  unfold ORels at hρ
  cases op <;> simp only [aop] at h <;> (try (cases h; done)) <;> (try (simp at h; done))
  case pick c a b => split at h <;> simp at h
  case nilCheck x => split at h <;> simp at h
  case makeFunc fn first captured => cases fn <;> simp at h
  case call c =>
    unfold callOp at h
    obtain ⟨callee, xs, argTypes⟩ := c
    cases callee with
    | builtin b => simp at h
    | value g =>
      simp only at h
      split at h
      · rename_i f2 first captured hg
        split at h
        · rename_i he
          cases h
          have hgr := hρ (g) (by simp [Op.operands, Call.operands])
          rw [hg] at hgr
          generalize hg' : ρ' g = g' at hgr
          cases hgr with
          | func fn hy h1 h2 h3 h4 =>
          rename_i first' captured'
          refine ⟨rfl, first' ++ xs.map ρ' ++ captured', ?_, ?_⟩
          · simp only [execOp, Sem.run_bind, resolve, hg', Deferred.ofValue, Sem.run_pure, Result.andThen_ok, invoke]
            exact run_callFunc he _ _
          · rw [Array.toList_append, Array.toList_append]
            refine ((VRels.of_arr h1 h3).append ?_).append (VRels.of_arr h2 h4)
            have := arr_map_list (φ := φ) (ρ := ρ) (ρ' := ρ') (xs := xs) fun x hx => hρ x (by simp [Op.operands, Call.operands, hx])
            rwa [Array.toList_map] at this
        · split at h
          · simp at h
          · cases h
      · split at h <;> cases h
      · cases h
    | invoke a b => cases h

theorem sim_aop_yield {X : XT} {φ : Phi} {H H' : AHeap} {w : World} {o : Oper} {ρ ρ' : Operand → Value} (hρ : ORels φ ρ ρ' o.op) {b : Nat} {args : List Value} (h : aop X P ρ H o.op = some (.yield b args, H')) :
    H' = H ∧ ∃ c K args', φ b = some (c, K) ∧ (execOp ρ' o).run P w = (Instr.yield c args').run P w ∧ VRels φ args args'.toList := by
  obtain ⟨dst, op, ty, pos, after, guard⟩ := o
  simp only at h hρ
  unfold ORels at hρ
  cases op <;> simp only [aop] at h <;> (try (cases h; done)) <;> (try (simp at h; done))
  case pick c a b => split at h <;> simp at h
  case nilCheck x => split at h <;> simp at h
  case makeFunc fn first captured => cases fn <;> simp at h
  case call c =>
    unfold callOp at h
    obtain ⟨callee, xs, argTypes⟩ := c
    cases callee with
    | builtin b => simp at h
    | value g =>
      simp only at h
      split at h
      · split at h
        · cases h
        · split at h
          · simp at h
          · cases h
      · rename_i b2 first captured hg
        split at h
        · rename_i hz
          cases h
          have hgr := hρ (g) (by simp [Op.operands, Call.operands])
          rw [hg] at hgr
          generalize hg' : ρ' g = g' at hgr
          cases hgr with
          | func fn hy h1 h2 h3 h4 => exact absurd rfl (hy b)
          | yield hb =>
          refine ⟨rfl, _, _, xs.map ρ', hb, ?_, ?_⟩
          · simp only [execOp, Sem.run_bind, resolve, hg', Deferred.ofValue, Sem.run_pure, Result.andThen_ok, invoke]
            simp
          · have := arr_map_list (φ := φ) (ρ := ρ) (ρ' := ρ') (xs := xs) fun x hx => hρ x (by simp [Op.operands, Call.operands, hx])
            rwa [Array.toList_map] at this
        · cases h
      · cases h
    | invoke a b => cases h
end
end Go.Big
