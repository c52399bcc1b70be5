/-
  A region that draws its order: what holds between two of its operations.
-/
import Derived.Test.YtjkbcgeoglnbgaaGreatBigO
set_option linter.unusedVariables false
set_option linter.unusedSimpArgs false
namespace Go.Big
section
variable {P : Program}

structure DC (P : Program) where
  X : XT
  call : ACalls
  Γ : Gam
  ops : Array Oper
  so : List SOp
  E : Nat → Env
  G : Nat → AHeap
  base : Nat
  φ0 : Phi
  H0 : AHeap
  w0 : World

def DC.bs (c : DC P) : List Nat := befs c.ops
def DC.id (c : DC P) (k : Nat) : Nat := 2 * (c.base + k)

structure DC.OK (c : DC P) : Prop where
  hX : ExtOK P c.X
  hc : CallOK P c.call
  len : c.so.length = c.ops.size
  strip : ∀ (k : Nat) o, c.ops[k]? = some o → ∃ s, c.so[k]? = some s ∧ stripOp c.ops o = some s
  step : ∀ (k : Nat) s, c.so[k]? = some s → ∃ at_, stepD c.X P c.call c.Γ (c.base + k) ⟨s, isNew (kindOf P s.op), at_⟩ (c.E k) (c.G k) = some (c.E (k + 1), c.G (k + 1))
  again : ∀ (k : Nat) s, c.so[k]? = some s → isRd (kindOf P s.op) = true → wantedE (c.E k) s.guard = true → ∀ p ∈ placesOf (effsOf P c.so) c.bs c.so.length k,
    ∃ v, aopVal c.X P (c.E k) (c.G k) s.op = some v ∧ aopVal c.X P (c.E k) (c.G p) s.op = some v
  back : edgesBack c.ops = true
  slots : slotsOK c.so c.bs = true
  effs : effsOK (effsOf P c.so) c.bs = true
  rel0 : Rel c.φ0 c.H0 c.w0
  loops0 : Loops P c.φ0 c.Γ c.w0
  base_ : c.base = c.H0.next

def Done (l : Array Bool) (k : Nat) : Prop := l.getD k false = true
theorem done_set {l : Array Bool} {k j : Nat} (hk : k < l.size) : Done (l.setIfInBounds k true) j ↔ j = k ∨ Done l j := by
  unfold Done
  rw [Array.getD_eq_getD_getElem?, Array.getD_eq_getD_getElem?, Array.getElem?_setIfInBounds]
  by_cases h : k = j
  · subst h; simp [hk]
  · simp [h, Ne.symm h]

def NewAt (c : DC P) (k : Nat) : Prop := ∃ s : SOp, c.so[k]? = some s ∧ isNew (kindOf P s.op) = true

structure DH (c : DC P) (l : Array Bool) (p : Nat) (φ : Phi) (F : AHeap) (w : World) : Prop where
  ple : p ≤ c.ops.size
  eff : ∀ (k : Nat) s, c.so[k]? = some s → isEff (kindOf P s.op) = true → (Done l k ↔ k < p)
  get1 : ∀ b, (∀ k, p ≤ k → NewAt c k → b ≠ c.id k) → F.get b = (c.G p).get b
  get2 : ∀ (k : Nat) s, (p ≤ k ∨ ¬ Done l k) → c.so[k]? = some s → isNew (kindOf P s.op) = true → F.get (c.id k) = if wantedE (c.E k) s.guard = true then (c.G (k + 1)).get (c.id k) else none
  get3 : ∀ k, p ≤ k → NewAt c k → (c.G p).get (c.id k) = none
  next : F.next = (c.G p).next
  nge : c.base + c.ops.size ≤ F.next
  rel : Rel φ F w
  ext : Ext c.φ0 c.H0 c.w0 φ F w
  wait : ∀ k, NewAt c k → ¬ Done l k → φ (c.id k) = none

structure DT (c : DC P) (l : Array Bool) (φ : Phi) (a : Act) : Prop where
  len : ∀ i, i ≤ c.ops.size → (c.E i).n = a.tmps.size
  slot : ∀ t, ∃ i, i ≤ c.ops.size ∧ (∀ (j : Nat) s, c.so[j]? = some s → s.dst = some t → (Done l j ↔ j < i)) ∧ VRel φ ((c.E i).get t) (a.tmps.getD t undef)

structure Closed (c : DC P) (l : Array Bool) : Prop where
  size : l.size = c.ops.size
  out : ∀ k j, Done l k → hasBit c.bs k j = true → Done l j

section facts
variable {c : DC P}

theorem DC.lt {k : Nat} {s : SOp} (ok : c.OK) (h : c.so[k]? = some s) : k < c.ops.size := by
  rw [← ok.len]; exact (List.getElem?_eq_some_iff.1 h).1

theorem stepOp_put {X : XT} {call : ACalls} {Γ : Gam} {s : SOp} {env env' : Env} {H H' : AHeap} (h : stepOp X P call Γ s env H = some (env', H')) : ∃ v, env' = putO env s.dst v := by
  unfold stepOp at h
  split at h
  · cases h
  split at h
  · split at h
    · cases h; exact ⟨_, rfl⟩
    · split at h
      · cases h; exact ⟨_, rfl⟩
      · cases h
    · split at h
      · cases h; exact ⟨_, rfl⟩
      · cases h
    · cases h
  · cases h; exact ⟨_, rfl⟩

theorem DC.OK.put (ok : c.OK) {k : Nat} {s : SOp} (h : c.so[k]? = some s) : ∃ v, c.E (k + 1) = putO (c.E k) s.dst v := by
  obtain ⟨at_, h1⟩ := ok.step k s h
  unfold stepD at h1
  split at h1
  · split at h1
    · rename_i e' h' hs
      simp only [Option.some.injEq, Prod.mk.injEq] at h1
      rw [← h1.1]; exact stepOp_put hs
    · cases h1
  · exact stepOp_put h1

/-- What neither makes memory nor changes it. -/
theorem stepOp_still {X : XT} {call : ACalls} {Γ : Gam} {s : SOp} {env env' : Env} {H H' : AHeap} (hk : isNew (kindOf P s.op) = false) (hk2 : isEff (kindOf P s.op) = false) (h : stepOp X P call Γ s env H = some (env', H')) :
    H' = H ∧ guardKnown env s.guard = true ∧ ((wantedE env s.guard = true ∧ ∃ v, env' = putO env s.dst v ∧ aop X P (evalO env) H s.op = some (.val v, H) ∧ (isRd (kindOf P s.op) = false → ∀ H2, aop X P (evalO env) H2 s.op = some (.val v, H2))) ∨
      (wantedE env s.guard = false ∧ env' = putO env s.dst undef)) := by
  unfold stepOp at h
  split at h
  · cases h
  rename_i hg
  split at h
  · rename_i hw
    split at h
    · rename_i v H2 ha
      obtain ⟨v', h1, h2, h3⟩ := aop_still hk hk2 ha
      cases h1; subst h2
      cases h
      exact ⟨rfl, by simpa using hg, .inl ⟨hw, v, rfl, ha, h3⟩⟩
    · rename_i ha
      obtain ⟨v', h1, h2, h3⟩ := aop_still hk hk2 ha
      cases h1
    · rename_i ha
      obtain ⟨v', h1, h2, h3⟩ := aop_still hk hk2 ha
      cases h1
    · cases h
  · rename_i hw
    cases h
    exact ⟨rfl, by simpa using hg, .inr ⟨by simpa using hw, rfl⟩⟩

theorem DC.OK.still (ok : c.OK) {k : Nat} {s : SOp} (h : c.so[k]? = some s) (hk : isNew (kindOf P s.op) = false) (hk2 : isEff (kindOf P s.op) = false) : c.G (k + 1) = c.G k ∧ stepOp c.X P c.call c.Γ s (c.E k) (c.G k) = some (c.E (k + 1), c.G k) := by
  obtain ⟨at_, h1⟩ := ok.step k s h
  unfold stepD at h1
  rw [hk] at h1
  simp only [Bool.false_eq_true, if_false] at h1
  obtain ⟨h2, _⟩ := stepOp_still hk hk2 h1
  rw [h2] at h1
  exact ⟨h2, h1⟩

/-- What makes memory. -/
theorem DC.OK.new (ok : c.OK) {k : Nat} {s : SOp} (h : c.so[k]? = some s) (hk : isNew (kindOf P s.op) = true) : guardKnown (c.E k) s.guard = true ∧ (c.G (k + 1)).next = (c.G k).next ∧
    ((wantedE (c.E k) s.guard = true ∧ ∃ v x, c.E (k + 1) = putO (c.E k) s.dst v ∧ (∀ b, (c.G (k + 1)).get b = if b = c.id k then some x else (c.G k).get b) ∧
        ∀ (o : Oper) (φ : Phi) (w : World) (ρ' : Operand → Value), o.op = s.op → ORels φ (evalO (c.E k)) ρ' s.op → Makes P φ w (execOp ρ' o) v (c.id k) x) ∨
      (wantedE (c.E k) s.guard = false ∧ c.E (k + 1) = putO (c.E k) s.dst undef ∧ c.G (k + 1) = c.G k)) := by
  obtain ⟨at_, h1⟩ := ok.step k s h
  unfold stepD at h1
  rw [hk] at h1
  simp only [if_true] at h1
  split at h1
  · rename_i e' H' hs
    cases hE : c.E (k + 1)
    all_goals
      simp only [Option.some.injEq, Prod.mk.injEq] at h1
      obtain ⟨h2, h3⟩ := h1
      unfold stepOp at hs
      split at hs
      · cases hs
      rename_i hg
      refine ⟨by simpa using hg, by rw [← h3], ?_⟩
      split at hs
      · rename_i hw
        split at hs
        · rename_i v H2 ha
          obtain ⟨v', x, g1, g2, g3⟩ := aop_new hk ha
          cases g1; subst g2
          cases hs
          refine .inl ⟨hw, v, x, by rw [← hE, ← h2], fun b => ?_, fun o φ w ρ' ho hρ => g3 o φ w ρ' ho hρ⟩
          rw [← h3]
          exact AHeap.get_alloc { c.G k with next := c.base + k } x b
        · rename_i ha
          obtain ⟨v', x, g1, g2, g3⟩ := aop_new hk ha
          cases g1
        · rename_i ha
          obtain ⟨v', x, g1, g2, g3⟩ := aop_new hk ha
          cases g1
        · cases hs
      · rename_i hw
        cases hs
        exact .inr ⟨by simpa using hw, by rw [← hE, ← h2], by rw [← h3]⟩
  · cases h1

theorem id_inj {j k : Nat} (h : c.id j = c.id k) : j = k := by unfold DC.id at h; omega

/-- Over what does not change memory. -/
theorem DH.next1 (ok : c.OK) {l : Array Bool} {p : Nat} {φ : Phi} {F : AHeap} {w : World} (h : DH c l p φ F w) {s : SOp} (hs : c.so[p]? = some s) (he : isEff (kindOf P s.op) = false) : DH c l (p + 1) φ F w := by
  have hlt := DC.lt ok hs
  have effp : ∀ (k : Nat) s', c.so[k]? = some s' → isEff (kindOf P s'.op) = true → (Done l k ↔ k < p + 1) := fun k s' h1 h2 => by
    rw [h.eff k s' h1 h2]
    have : k ≠ p := fun e => by subst e; rw [hs] at h1; cases h1; rw [he] at h2; cases h2
    omega
  cases hn : isNew (kindOf P s.op) with
  | false =>
    have hG := (ok.still hs hn he).1
    have notp : ∀ k, p ≤ k → NewAt c k → p + 1 ≤ k := fun k h1 ⟨s', h2, h3⟩ => by
      have : k ≠ p := fun e => by subst e; rw [hs] at h2; cases h2; rw [hn] at h3; cases h3
      omega
    exact ⟨hlt, effp, fun b hb => by rw [hG]; exact h.get1 b fun k h1 h2 => hb k (notp k h1 h2) h2, fun k s' h1 => h.get2 k s' (h1.imp (fun h => by omega) id), fun k h1 h2 => by rw [hG]; exact h.get3 k (by omega) h2, by rw [hG]; exact h.next, h.nge, h.rel, h.ext, h.wait⟩
  | true =>
    obtain ⟨hg, hnx, hcase⟩ := ok.new hs hn
    have hp : NewAt c p := ⟨s, hs, hn⟩
    have hF := h.get2 p s (.inl (Nat.le_refl _)) hs hn
    have h3 := h.get3 p (Nat.le_refl _) hp
    have hget : ∀ b, (c.G (p + 1)).get b = if b = c.id p then F.get (c.id p) else (c.G p).get b := fun b => by
      rcases hcase with ⟨hw, v, x, _, h5, _⟩ | ⟨hw, _, h5⟩
      · rw [hw] at hF
        simp only [if_true] at hF
        rw [hF, h5 b]
        by_cases hb : b = c.id p
        · rw [if_pos hb, if_pos hb, h5, if_pos rfl]
        · rw [if_neg hb, if_neg hb]
      · rw [hw] at hF
        simp only [Bool.false_eq_true, if_false] at hF
        rw [h5, hF]
        by_cases hb : b = c.id p
        · rw [if_pos hb, hb, h3]
        · rw [if_neg hb]
    refine ⟨hlt, effp, fun b hb => ?_, fun k s' h1 => h.get2 k s' (h1.imp (fun h => by omega) id), fun k h1 h2 => ?_, by rw [hnx]; exact h.next, h.nge, h.rel, h.ext, h.wait⟩
    · rw [hget b]
      by_cases hbp : b = c.id p
      · rw [if_pos hbp, hbp]
      · rw [if_neg hbp]
        refine h.get1 b fun k h1 h2 => ?_
        by_cases hk : k = p
        · subst hk; exact hbp
        · exact hb k (by omega) h2
    · rw [hget, if_neg (fun e => by have := id_inj e; omega)]
      exact h.get3 k (by omega) h2

theorem DH.advance (ok : c.OK) {l : Array Bool} {p : Nat} {φ : Phi} {F : AHeap} {w : World} (h : DH c l p φ F w) : ∀ d, p + d ≤ c.ops.size → (∀ (k : Nat) s, p ≤ k → k < p + d → c.so[k]? = some s → isEff (kindOf P s.op) = false) → DH c l (p + d) φ F w
  | 0, _, _ => h
  | d + 1, hle, hno => by
    have h1 := DH.advance ok h d (by omega) fun k s h1 h2 => hno k s h1 (by omega)
    have hlt : p + d < c.so.length := by rw [ok.len]; omega
    exact h1.next1 ok (List.getElem?_eq_getElem hlt) (hno (p + d) _ (by omega) (by omega) (List.getElem?_eq_getElem hlt))

theorem E_same (ok : c.OK) {t : Tmp} {i : Nat} : ∀ d, i + d ≤ c.ops.size → (∀ (j : Nat) s, i ≤ j → j < i + d → c.so[j]? = some s → s.dst ≠ some t) → (c.E (i + d)).get t = (c.E i).get t
  | 0, _, _ => rfl
  | d + 1, hle, hno => by
    rw [← E_same ok d (by omega) fun j s h1 h2 => hno j s h1 (by omega)]
    have hlt : i + d < c.so.length := by rw [ok.len]; omega
    obtain ⟨v, hv⟩ := ok.put (List.getElem?_eq_getElem hlt)
    have hne := hno (i + d) _ (by omega) (by omega) (List.getElem?_eq_getElem hlt)
    rw [← Nat.add_assoc, hv]
    unfold putO
    split
    · rename_i d' hd'
      have : d' ≠ t := fun e => hne (by rw [hd', e])
      rw [Env.get_set, if_neg (fun q => this q.1.symm)]
    · rfl

/-- An operation whose turn it may be. -/
structure Turn (c : DC P) (l : Array Bool) (k : Nat) : Prop where
  lt : k < c.ops.size
  not : ¬ Done l k
  bits : ∀ j, hasBit c.bs k j = true → Done l j

theorem turn_of_ready {l : Array Bool} (cl : Closed c l) {k : Nat} (h : k ∈ Region.ready .any c.ops l) : Turn c l k := by
  obtain ⟨h1, o, h2, h3⟩ := mem_ready.1 h
  have hlt : k < c.ops.size := (Array.getElem?_eq_some_iff.1 h2).1
  refine ⟨hlt, fun hd => ?_, fun j hj => ?_⟩
  · unfold Done at hd
    rw [Array.getD_eq_getD_getElem?] at h1 hd
    have : k < l.size := by rw [cl.size]; exact hlt
    rw [Array.getElem?_eq_getElem this] at h1 hd
    simp at h1 hd; rw [h1] at hd; cases hd
  · obtain ⟨e, g1, g2, g3⟩ := befs_spec h2 hj
    have hd : Done l e.on := h3 e g1 g2
    rcases g3 with g3 | g3
    · rw [← g3]; exact hd
    · exact cl.out _ _ hd g3

theorem Turn.closed {l : Array Bool} {k : Nat} (cl : Closed c l) (t : Turn c l k) : Closed c (l.setIfInBounds k true) := by
  have hk : k < l.size := by rw [cl.size]; exact t.lt
  refine ⟨by simpa using cl.size, fun i j h1 h2 => ?_⟩
  rw [done_set hk] at h1 ⊢
  rcases h1 with rfl | h1
  · exact .inr (t.bits j h2)
  · exact .inr (cl.out i j h1 h2)

theorem slots_spec (ok : c.OK) {k j : Nat} {a b : SOp} {t : Tmp} (ha : c.so[k]? = some a) (hb : c.so[j]? = some b) (hne : j ≠ k) (hd : b.dst = some t) (hn : t ∈ named a) : hasBit c.bs (max j k) (min j k) = true := by
  have h := ok.slots
  unfold slotsOK at h
  rw [List.all_eq_true] at h
  have h1 := h k (List.mem_range.2 (List.getElem?_eq_some_iff.1 ha).1)
  rw [List.all_eq_true] at h1
  have h2 := h1 j (List.mem_range.2 (List.getElem?_eq_some_iff.1 hb).1)
  rw [ha, hb] at h2
  simp only [hd, Bool.or_eq_true, beq_iff_eq, Bool.not_eq_true', List.contains_eq_mem, decide_eq_false_iff_not] at h2
  rcases h2 with h2 | h2 | h2
  · exact absurd h2 hne
  · exact absurd hn h2
  · exact h2

/-- The writers of a slot that an operation names: done if ahead of it in the text, and not otherwise. -/
theorem writers (ok : c.OK) {l : Array Bool} (cl : Closed c l) {k : Nat} (t : Turn c l k) {a b : SOp} {x : Tmp} (ha : c.so[k]? = some a) (hn : x ∈ named a) {j : Nat} (hb : c.so[j]? = some b) (hd : b.dst = some x) : Done l j ↔ j < k := by
  by_cases hjk : j = k
  · subst hjk; exact ⟨fun h => absurd h t.not, fun h => absurd h (Nat.lt_irrefl _)⟩
  · have hbit := slots_spec ok ha hb hjk hd hn
    rcases Nat.lt_or_ge j k with h | h
    · rw [Nat.max_eq_right (by omega), Nat.min_eq_left (by omega)] at hbit
      exact ⟨fun _ => h, fun _ => t.bits j hbit⟩
    · rw [Nat.max_eq_left (by omega), Nat.min_eq_right (by omega)] at hbit
      exact ⟨fun h1 => absurd (cl.out j k h1 hbit) t.not, fun h1 => by omega⟩

theorem DT.named (ok : c.OK) {l : Array Bool} (cl : Closed c l) {φ : Phi} {a : Act} (h : DT c l φ a) {k : Nat} (t : Turn c l k) {s : SOp} (hs : c.so[k]? = some s) {x : Tmp} (hn : x ∈ named s) :
    VRel φ ((c.E k).get x) (a.tmps.getD x undef) := by
  obtain ⟨i, hi, hw, hr⟩ := h.slot x
  have key : ∀ (j : Nat) b, c.so[j]? = some b → b.dst = some x → (j < i ↔ j < k) := fun j b hb hd => by rw [← hw j b hb hd]; exact writers ok cl t hs hn hb hd
  rcases Nat.le_total i k with hik | hik
  · obtain ⟨d, rfl⟩ := Nat.exists_eq_add_of_le hik
    rw [E_same ok d (by have := t.lt; omega) fun j b h1 h2 hb hd => by have := key j b hb hd; omega]
    exact hr
  · obtain ⟨d, rfl⟩ := Nat.exists_eq_add_of_le hik
    rw [E_same ok d hi fun j b h1 h2 hb hd => by have := key j b hb hd; omega] at hr
    exact hr

theorem DT.done (ok : c.OK) {l : Array Bool} (cl : Closed c l) {φ φ' : Phi} {a : Act} (h : DT c l φ a) {k : Nat} (t : Turn c l k) {s : SOp} (hs : c.so[k]? = some s) (hφ : φ.le φ') {v v' : Value} (hv : VRel φ' v v')
    (hE : c.E (k + 1) = putO (c.E k) s.dst v) : DT c (l.setIfInBounds k true) φ' (a.put s.dst v') := by
  have hk : k < l.size := by rw [cl.size]; exact t.lt
  refine ⟨fun i hi => ?_, fun x => ?_⟩
  · rw [h.len i hi]
    unfold Act.put
    split <;> simp
  · by_cases hx : s.dst = some x
    · refine ⟨k + 1, t.lt, fun j b hb hd => ?_, ?_⟩
      · rw [done_set hk, writers ok cl t hs (x := x) (by simp [Go.Big.named, hx]) hb hd]; omega
      · rw [hE, hx]
        have hl : (c.E k).n = a.tmps.size := h.len k (Nat.le_of_lt t.lt)
        unfold putO Act.put
        simp only
        rw [Env.get_set, Array.getD_eq_getD_getElem?, Array.getElem?_setIfInBounds, hl]
        by_cases hlt : x < a.tmps.size
        · simp only [hlt, and_self, if_true]; exact hv
        · rw [if_neg (fun q => hlt q.2)]
          simp only [hlt, if_true, if_false]
          have := h.named ok cl t hs (x := x) (by simp [Go.Big.named, hx])
          rw [Array.getD_eq_getD_getElem?, Array.getElem?_eq_none (Nat.le_of_not_lt hlt)] at this
          exact this.mono hφ
    · obtain ⟨i, hi, hw, hr⟩ := h.slot x
      refine ⟨i, hi, fun j b hb hd => ?_, ?_⟩
      · rw [done_set hk, ← hw j b hb hd]
        have : j ≠ k := fun e => by subst e; rw [hs] at hb; cases hb; exact hx hd
        exact ⟨fun h => h.resolve_left this, .inr⟩
      · have : (a.put s.dst v').tmps.getD x undef = a.tmps.getD x undef := by
          unfold Act.put
          split
          · rename_i d hd
            have : d ≠ x := fun e => hx (by rw [← e]; exact hd)
            rw [Array.getD_eq_getD_getElem?, Array.getD_eq_getD_getElem?, Array.getElem?_setIfInBounds, if_neg this]
          · rfl
        rw [this]
        exact hr.mono hφ

theorem Closed.all {l : Array Bool} (ok : c.OK) (cl : Closed c l) (h : Region.ready .any c.ops l = []) : ∀ k, k < c.ops.size → Done l k := by
  intro k
  induction k using Nat.strongRecOn with
  | ind k ih =>
    intro hk
    apply Classical.byContradiction
    intro hnd
    have : k ∈ Region.ready .any c.ops l := by
      refine mem_ready.2 ⟨?_, c.ops[k], Array.getElem?_eq_getElem hk, fun e he hb => ?_⟩
      · unfold Done at hnd
        have hkl : k < l.size := by rw [cl.size]; exact hk
        rw [Array.getD_eq_getD_getElem?, Array.getElem?_eq_getElem hkl] at hnd ⊢
        simpa using hnd
      · have hb2 := ok.back
        unfold edgesBack at hb2
        rw [List.all_eq_true] at hb2
        have h3 := hb2 k (List.mem_range.2 hk)
        rw [List.all_eq_true] at h3
        have h4 := h3 e (by rw [Array.getD_eq_getD_getElem?, Array.getElem?_eq_getElem hk]; simpa using he)
        simp only [hb, Bool.not_true, Bool.false_or, decide_eq_true_eq] at h4
        exact ih e.on h4 (by omega)
    rw [h] at this
    cases this
end facts
end
end Go.Big
