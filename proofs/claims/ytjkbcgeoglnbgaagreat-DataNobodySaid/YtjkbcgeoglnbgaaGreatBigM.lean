/-
  A region that draws its order. What makes memory: it looks at no heap, and its block may lie under any number kept for it.
-/
import Derived.Test.YtjkbcgeoglnbgaaGreatBigL
set_option linter.unusedVariables false
set_option linter.unusedSimpArgs false
namespace Go.Big
section
variable {P : Program}

/-- A run that lays down one block, of which the abstract one is 'x', to be known as 'b'. -/
def Makes (P : Program) (φ : Phi) (w : World) (s : Sem Next) (v : Value) (b : Nat) (x : Blk) : Prop :=
  ∃ (K : Nat) (cs : Array Value) (e : TypeId) (fz : Nat × Nat) (w' : World) (v' : Value), s.run P w = .ok (.value v') w' ∧ x.ro = false ∧ w'.heap = w.heap.push (.cells cs e fz) ∧ w'.os = w.os ∧ w'.tape = w.tape ∧ w'.output = w.output ∧
    x.cells.length ≤ cs.size ∧ (x.grow = none → cs.size = x.cells.length) ∧ (∀ e, x.grow = some e → cs.size = K * e) ∧ (∀ (i : Nat) (u : Value), x.cells[i]? = some u → ∃ u', cs[i]? = some u' ∧ VRel φ u u') ∧
    (∀ o, o < cs.size → ¬ (fz.1 ≤ o ∧ o < fz.2)) ∧ VRel (φ.put b w.heap.size K) v v'

theorem run_next {s : Sem Value} {w w' : World} {v : Value} (h : s.run P w = .ok v w') : Sem.run P (do pure (Next.value (← s))) w = .ok (.value v) w' := by simp [h]

theorem mk_newVar {φ : Phi} {w : World} (b : Nat) {t : TypeId} {cells : List Value} {v' : Value} (hv : VRels φ cells v'.cells.toList) {s : Sem Next} (hs : s.run P w = .ok (.value (.pointer (some ⟨w.heap.size, 0, none⟩))) { w with heap := w.heap.push (.cells v'.cells t) }) :
    Makes P φ w s (.pointer (some ⟨b, 0, none⟩)) b { cells } :=
  ⟨0, v'.cells, t, (0, 0), _, _, hs, rfl, rfl, rfl, rfl, rfl, by simp [hv.length], fun _ => by simp [hv.length], (fun e he => by cases he), fun i u hi => by simpa using hv.get i u hi, fun o _ => by omega, .ptr 0 (Phi.put_same _ _ _ _)⟩

theorem mk_makeSlice {φ : Phi} {H H' : AHeap} {t : TypeId} {l c v : Value} (h : makeSliceOp P t l c H = some (v, H')) :
    ∃ x, H' = H.alloc x ∧ ∀ (φ : Phi) (w : World) (l' c' : Value), VRel φ l l' → VRel φ c c' → Makes P φ w (do pure (.value (← Instr.makeSlice t l' c'))) v H.fresh x := by
  unfold makeSliceOp at h
  split at h
  · rename_i et k1 li k2 ci hu
    split at h
    · rename_i i z hi hz
      obtain ⟨i', zv, hi', hzv, hzs, rfl⟩ := zeroOf_spec hz
      rw [hi] at hi'; cases hi'
      split at h
      · rename_i hb
        obtain ⟨h1, h2, h3, h4⟩ := hb
        cases h
        refine ⟨_, rfl, fun φ w l' c' hl hc => ?_⟩
        cases hl; cases hc
        obtain ⟨ln, rfl⟩ := Int.eq_ofNat_of_zero_le h1
        obtain ⟨cn, rfl⟩ := Int.eq_ofNat_of_zero_le (Int.le_trans h1 h2)
        simp only [Int.toNat_natCast] at h4 ⊢
        have hw : ∀ q : Nat, (q : Int) < 4611686018427387904 → IntKind.i64.wrap q = q := fun q hq => IntWalk.i64_in _ (by omega)
        have hbig : ¬ ((i.bytes : Int) * (cn : Int) > 2 ^ 48) := by
          have h5 := Int.ofNat_le.2 h4
          rw [Int.natCast_mul] at h5; omega
        have hrow := row_of_zero (n := cn) (z := zv) hzs
        have hrun : (Instr.makeSlice t (.int k1 (ln : Int)) (.int k2 (cn : Int))).run P w = .ok (.slice (some ⟨w.heap.size, 0, none⟩) ln cn)
            (w.alloc (.cells ((Array.range (cn * i.size)).map fun j => (if cn * i.size = 0 then #[] else zv.cells)[j % (if cn * i.size = 0 then #[] else zv.cells).size]!) et)) := by
          simp only [Instr.makeSlice, Sem.run_bind, run_underlying hu, Result.andThen_ok, asInt, asIntOf, Sem.run_pure, run_typeInfo' hi, hw ln (by omega), hw cn h3]
          rw [if_neg (by simp only [decide_eq_true_eq, Bool.or_eq_true]; omega)]
          simp only [Sem.run_bind, run_askRoom, Result.andThen_ok, run_sizeOf' hi, Int.toNat_natCast]
          by_cases h0 : cn * i.size = 0
          · simp [h0, newRow]
          · simp [h0, newRow, run_zeroValue' hi hzv]
        have hlen : ∀ arr : Array Value, arr.toList = repl cn zv.cells.toList → arr.size = (repl cn zv.cells.toList).length := fun arr ha => by rw [← ha]; simp
        refine ⟨0, _, et, (0, 0), _, _, run_next hrun, rfl, rfl, rfl, rfl, rfl,
          by rw [hlen _ hrow]; exact Nat.le_refl _, fun _ => hlen _ hrow, (fun e he => by cases he), (fun q v hq => by
            rw [← hrow] at hq
            refine ⟨v, by rwa [Array.getElem?_toList] at hq, ?_⟩
            rw [hrow, repl_get] at hq
            split at hq
            · obtain ⟨v', g1, g2⟩ := (zeroOf_flat hz φ).get _ _ hq
              rw [hq] at g1; cases g1; exact g2
            · cases hq), fun o _ => by omega, .slice 0 ln cn (Phi.put_same _ _ _ _) (by unfold capG; omega)⟩
      · cases h
    · cases h
  · cases h

theorem Parts.join {φ : Phi} : ∀ {l l' : List (Nat × Value)}, Parts φ l l' → ∀ {ψ : Phi}, φ.le ψ → Parts ψ l l'
  | _, _, .nil, _, _ => .nil
  | _, _, .cons i h t, _, hle => .cons i (h.mono hle) (t.join hle)

theorem fillOp_rel {φ : Phi} {place : Nat → Option (Nat × Nat)} {l l' : List (Nat × Value)} (hp : Parts φ l l') {cells out : List Value} {cells' : Array Value} (hc : VRels φ cells cells'.toList) (h : fillOp place cells l = some out) :
    ∃ out', Instr.fill place cells' l' = some out' ∧ VRels φ out out'.toList := sim_fill hp hc h

theorem mk_buildSlice {H H' : AHeap} {t : TypeId} {n : Nat} {ps : List (Nat × Value)} {v : Value} (h : buildSliceOp P t n ps H = some (v, H')) :
    ∃ x, H' = H.alloc x ∧ ∀ (φ : Phi) (w : World) (ps' : Array (Nat × Value)), Parts φ ps ps'.toList → Makes P φ w (do pure (.value (← Instr.buildSlice t n ps'))) v H.fresh x := by
  unfold buildSliceOp at h
  split at h
  · rename_i et hu
    split at h
    · rename_i i z hi hz
      obtain ⟨i', zv, hi', hzv, hzs, rfl⟩ := zeroOf_spec hz
      rw [hi] at hi'; cases hi'
      split at h
      · rename_i hb
        simp only [Option.map_eq_some_iff, Prod.mk.injEq] at h
        obtain ⟨out, ho, rfl, rfl⟩ := h
        refine ⟨_, rfl, fun φ w ps' hp => ?_⟩
        have hrow := row_of_zero (n := n) (z := zv) hzs
        have hrel : VRels φ (repl n zv.cells.toList) (repl n zv.cells.toList) := by
          refine VRels.of_get rfl fun q v hq => ⟨v, hq, ?_⟩
          rw [repl_get] at hq
          split at hq
          · obtain ⟨v', g1, g2⟩ := (zeroOf_flat hz φ).get _ _ hq
            rw [hq] at g1; cases g1; exact g2
          · cases hq
        rw [← hrow] at hrel
        obtain ⟨out', h1, h2⟩ := sim_fill hp (by rw [hrow] at hrel ⊢; exact hrel) (hrow ▸ ho)
        have hrun : (Instr.buildSlice t n ps').run P w = .ok (.slice (some ⟨w.heap.size, 0, none⟩) n n) (w.alloc (.cells out' et)) := by
          have hnb : ¬ (n * i.size > 2 ^ 24) := by omega
          by_cases h0 : n * i.size = 0
          · simp only [h0, if_true] at h1
            simp [Instr.buildSlice, run_underlying hu, run_sizeOf' hi, h0, newRow] at h1 ⊢
            simp [h1]
          · simp only [h0, if_false] at h1
            simp [Instr.buildSlice, run_underlying hu, run_sizeOf' hi, h0, hnb, newRow, run_zeroValue' hi hzv, h1]
        exact ⟨0, out', et, (0, 0), _, _, run_next hrun, rfl, rfl, rfl, rfl, rfl, by simp [h2.length], fun _ => by simp [h2.length], (fun e he => by cases he), (fun q v hq => by simpa using h2.get q v hq), fun o _ => by omega,
          .slice 0 n n (Phi.put_same _ _ _ _) (by unfold capG; omega)⟩
      · cases h
    · cases h
  · cases h

theorem mk_conv {H H' : AHeap} {s d : TypeId} {x v : Value} {e0 : TypeId} (hd : P.underlying d = some (.slice e0)) (h : convOp P s d x H = some (v, H')) :
    ∃ y, H' = H.alloc y ∧ ∀ (φ : Phi) (w : World) (x' : Value), VRel φ x x' → Makes P φ w (do pure (.value (← convert s d x'))) v H.fresh y := by
  unfold convOp at h
  rw [hd] at h
  split at h <;> first | (rename_i heq; simp at heq; done) | (rename_i heq _; simp at heq; done) | skip
  all_goals first | (cases h; done) | skip
  rename_i e str hs hd'
  simp only [Option.some.injEq, TypeDesc.slice.injEq] at hd'
  subst hd'
  split at h
  · rename_i he
    cases h
    refine ⟨_, rfl, fun φ w x' hx => ?_⟩
    cases hx
    have hcap : str.size ≤ (Question.appendCap str.size 0 e0).cut (w.tape w.drawn (.appendCap str.size 0 e0)) := by simp [Question.cut]
    generalize hq : (Question.appendCap str.size 0 e0).cut (w.tape w.drawn (.appendCap str.size 0 e0)) = cap at hcap
    have hsz : ((str.data.map fun b : UInt8 => Value.int .u8 b.toNat) ++ Array.replicate (cap - str.size) (Value.int .u8 0)).size = cap := by
      have : str.data.size = str.size := rfl
      simp [this]; omega
    have hrun : (convert s d (.string str)).run P w = .ok (.slice (some ⟨w.heap.size, 0, none⟩) str.size cap)
        (w.drew.alloc (.cells ((str.data.map fun b : UInt8 => Value.int .u8 b.toNat) ++ Array.replicate (cap - str.size) (Value.int .u8 0)) e0 (cap, cap + 1))) := by
      have hf := heap_freeze w.drew ((str.data.map fun b : UInt8 => Value.int .u8 b.toNat) ++ Array.replicate (cap - str.size) (Value.int .u8 0)) e0 cap
      have hs1 : w.drew.heap.size = w.heap.size := rfl
      rw [hs1] at hf
      have hshape : (w.drew.alloc (.cells ((str.data.map fun b : UInt8 => Value.int .u8 b.toNat) ++ Array.replicate (cap - str.size) (Value.int .u8 0)) e0)).shape? w.heap.size = some (e0, cap) := by
        simp only [World.shape?, World.alloc]
        rw [← hs1, Array.getElem?_push_size]
        exact congrArg (fun n => some (e0, n)) hsz
      simp only [convert, Sem.run_bind, run_underlying hs, run_underlying hd, run_underlying he, Result.andThen_ok, Conv.stringToBytes, run_choose, Question.forced, Bool.false_eq_true, if_false, hq]
      simp only [newRow, Sem.run_bind, run_newObj, Result.andThen_ok, Sem.run_pure, markStringish, run_shape]
      have e1 : ({ heap := w.heap.push (.cells ((str.data.map fun b : UInt8 => Value.int .u8 b.toNat) ++ Array.replicate (cap - str.size) (Value.int .u8 0)) e0), tape := w.tape, drawn := w.drawn + 1, os := w.os, output := w.output } : World) = w.drew.alloc (.cells ((str.data.map fun b : UInt8 => Value.int .u8 b.toNat) ++ Array.replicate (cap - str.size) (Value.int .u8 0)) e0) := rfl
      rw [e1, hshape]
      simp only [run_freeze, Result.andThen_ok]
      rw [hf]
    exact ⟨cap, _, e0, (cap, cap + 1), _, _, run_next hrun, rfl, rfl, rfl, rfl, rfl, by rw [hsz]; simpa using hcap, (fun h => by cases h), (fun e' he' => by cases he'; rw [hsz, Nat.mul_one]), (fun i v hi => by
        have hlt : i < str.data.size := by
          have := (List.getElem?_eq_some_iff.1 hi).1
          simpa using this
        refine ⟨v, ?_, ?_⟩
        · rw [Array.getElem?_append_left (by simpa using hlt)]
          simpa using hi
        · obtain ⟨b, _, rfl⟩ := List.mem_map.1 (List.mem_of_getElem? hi)
          exact .int _ _), (fun o ho => by rw [hsz] at ho; simp only; omega), .sliceG 0 0 _ cap (Phi.put_same _ _ _ _) hcap (.inl rfl) (fun _ => rfl)⟩
  · cases h

/-- What makes memory. -/
theorem aop_new {X : XT} {H H' : AHeap} {ρ : Operand → Value} {op : Op} {r : ARes} (hk : isNew (kindOf P op) = true) (h : aop X P ρ H op = some (r, H')) :
    ∃ v x, r = .val v ∧ H' = H.alloc x ∧ ∀ (o : Oper) (φ : Phi) (w : World) (ρ' : Operand → Value), o.op = op → ORels φ ρ ρ' op → Makes P φ w (execOp ρ' o) v H.fresh x := by
  cases op <;> simp only [kindOf, isNew] at hk <;> (try (cases hk; done)) <;> simp only [aop] at h
  case alloc t =>
    simp only [Option.map_eq_some_iff, Prod.mk.injEq] at h
    obtain ⟨z, hz, rfl, rfl⟩ := h
    refine ⟨_, _, rfl, rfl, fun o φ w ρ' ho hρ => ?_⟩
    obtain ⟨dst, op, ty, pos, after, guard⟩ := o
    subst ho
    obtain ⟨i, zv, hi, hzv, hzs, rfl⟩ := zeroOf_spec hz
    refine mk_newVar (v' := zv) (t := t) _ (zeroOf_flat hz φ) ?_
    simp [execOp, Instr.alloc, run_zeroValue' hi hzv, newVar, newRow]
  case box t x =>
    simp only [Option.some.injEq, Prod.mk.injEq] at h
    obtain ⟨rfl, rfl⟩ := h
    refine ⟨_, _, rfl, rfl, fun o φ w ρ' ho hρ => ?_⟩
    obtain ⟨dst, op, ty, pos, after, guard⟩ := o
    subst ho
    refine mk_newVar (v' := ρ' x) (t := t) _ (hρ x (by simp [Op.operands])).cells ?_
    simp [execOp, Instr.box, newVar, newRow]
  case buildSlice t n ps =>
    simp only [Option.map_eq_some_iff, Prod.mk.injEq, Prod.exists] at h
    obtain ⟨u, H2, hu, rfl, rfl⟩ := h
    obtain ⟨x, h1, h2⟩ := mk_buildSlice hu
    refine ⟨u, x, rfl, h1, fun o φ w ρ' ho hρ => ?_⟩
    obtain ⟨dst, op, ty, pos, after, guard⟩ := o
    subst ho
    refine h2 φ w _ ?_
    rw [Array.toList_map]
    exact Parts.map_ops fun x hx => hρ x (by simpa [Op.operands] using hx)
  case convert s d x =>
    simp only [Option.map_eq_some_iff, Prod.mk.injEq, Prod.exists] at h
    obtain ⟨u, H2, hu, rfl, rfl⟩ := h
    cases hd : P.underlying d with
    | none => rw [hd] at hk; cases hk
    | some td =>
      cases td <;> rw [hd] at hk <;> (try (cases hk; done))
      rename_i e
      obtain ⟨y, h1, h2⟩ := mk_conv hd hu
      refine ⟨u, y, rfl, h1, fun o φ w ρ' ho hρ => ?_⟩
      obtain ⟨dst, op, ty, pos, after, guard⟩ := o
      subst ho
      exact h2 φ w _ (hρ x (by simp [Op.operands]))
  case makeSlice t l c =>
    simp only [Option.map_eq_some_iff, Prod.mk.injEq, Prod.exists] at h
    obtain ⟨u, H2, hu, rfl, rfl⟩ := h
    obtain ⟨x, h1, h2⟩ := mk_makeSlice (φ := fun _ => none) hu
    refine ⟨u, x, rfl, h1, fun o φ w ρ' ho hρ => ?_⟩
    obtain ⟨dst, op, ty, pos, after, guard⟩ := o
    subst ho
    exact h2 φ w _ _ (hρ l (by simp [Op.operands])) (hρ c (by simp [Op.operands]))
  case call c =>
    obtain ⟨callee, xs, ats⟩ := c
    cases callee with
    | builtin b => cases b <;> simp at hk
    | _ => simp at hk

theorem builtin_still {b : Builtin} {ts : Array TypeId} {l : List Value} {H H' : AHeap} {v : Value} (h1 : b ≠ .append) (h2 : b ≠ .copy) (h3 : b ≠ .clear) (h : builtinOp P b ts l H = some (v, H')) :
    H' = H ∧ ∀ H2, builtinOp P b ts l H2 = some (v, H2) := by
  unfold builtinOp at h ⊢
  split at h <;> first
    | (exact absurd rfl h1) | (exact absurd rfl h2) | (exact absurd rfl h3)
    | (cases h; done)
    | (simp only [Option.map_eq_some_iff, Prod.mk.injEq] at h
       obtain ⟨x, hx, rfl, rfl⟩ := h
       exact ⟨rfl, fun H2 => by simp [hx]⟩)

/-- What leaves memory as it is. -/
theorem aop_still {X : XT} {H H' : AHeap} {ρ : Operand → Value} {op : Op} {r : ARes} (hk : isNew (kindOf P op) = false) (hk2 : isEff (kindOf P op) = false) (h : aop X P ρ H op = some (r, H')) :
    ∃ v, r = .val v ∧ H' = H ∧ (isRd (kindOf P op) = false → ∀ H2, aop X P ρ H2 op = some (.val v, H2)) := by
  cases op <;> simp only [kindOf, isNew, isEff] at hk hk2 <;> (try (cases hk; done)) <;> (try (cases hk2; done)) <;> simp only [aop] at h ⊢ <;> simp only [kindOf, isRd] <;> (try (cases h; done))
  case pick c a b =>
    split at h
    · rename_i t ht; cases h; exact ⟨_, rfl, rfl, fun _ H2 => rfl⟩
    · cases h
  case nilCheck x =>
    split at h
    · cases h; exact ⟨_, rfl, rfl, fun _ H2 => rfl⟩
    · cases h; exact ⟨_, rfl, rfl, fun _ H2 => rfl⟩
    · cases h
  case convert s d x =>
    simp only [Option.map_eq_some_iff, Prod.mk.injEq, Prod.exists] at h
    obtain ⟨u, H2, hu, rfl, rfl⟩ := h
    have hd : ∀ e, P.underlying d ≠ some (.slice e) := fun e he => by rw [he] at hk; cases hk
    refine ⟨u, rfl, ?_, fun h0 => by
      cases hq : P.underlying d with
      | none => rw [hq] at h0; cases h0
      | some td => cases td <;> rw [hq] at h0 <;> first | (cases h0; done) | exact absurd hq (hd _)⟩
    unfold convOp at hu
    split at hu <;> (try (cases hu; rfl)) <;> (try (split at hu <;> (try (cases hu; rfl)) <;> (try (cases hu; done))))
    · simp only [Option.map_eq_some_iff, Prod.mk.injEq] at hu
      obtain ⟨_, _, _, rfl⟩ := hu; rfl
    · exact absurd ‹P.underlying d = some (TypeDesc.slice _)› (hd _)
    · cases hu
  case makeFunc fn first captured =>
    cases fn <;> simp only at h <;> (try (cases h; done))
    cases h; exact ⟨_, rfl, rfl, fun _ H2 => rfl⟩
  case call c =>
    obtain ⟨callee, xs, ats⟩ := c
    unfold callOp at h ⊢
    cases callee with
    | builtin b =>
      simp only [Option.map_eq_some_iff, Prod.mk.injEq, Prod.exists] at h
      obtain ⟨u, H2, hu, rfl, rfl⟩ := h
      obtain ⟨h1, h2⟩ := builtin_still (by rintro rfl; cases hk2) (by rintro rfl; cases hk2) (by rintro rfl; cases hk2) hu
      exact ⟨_, rfl, h1, fun _ H2 => by simp [h2 H2]⟩
    | _ => simp at hk2
  all_goals first
    | (cases h; exact ⟨_, rfl, rfl, fun _ H2 => rfl⟩)
    | (simp only [Option.map_eq_some_iff, Prod.mk.injEq] at h
       obtain ⟨u, hu, rfl, rfl⟩ := h
       exact ⟨u, rfl, rfl, fun hrd H2 => by first | (cases hrd; done) | simp [hu]⟩)
end
end Go.Big
