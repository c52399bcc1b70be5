/-
  A region that draws its order: each operation in its turn, and the end.
-/
import Derived.Test.YtjkbcgeoglnbgaaGreatBigR
set_option linter.unusedVariables false
set_option linter.unusedSimpArgs false
namespace Go.Big
section
variable {P : Program} {c : DC P}

theorem DH.sub {l : Array Bool} {p : Nat} {φ : Phi} {F : AHeap} {w : World} (h : DH c l p φ F w) : ∀ b x, (c.G p).get b = some x → F.get b = some x := fun b x hx => by
  rw [h.get1 b fun k h1 h2 e => by subst e; rw [h.get3 k h1 h2] at hx; cases hx]
  exact hx

theorem DH.small (ok : c.OK) {l : Array Bool} {p : Nat} {φ : Phi} {F : AHeap} {w : World} (h : DH c l p φ F w) {j : Nat} (hj : NewAt c j) {q : Nat} (e : c.id j = 2 * q) : q < F.next := by
  obtain ⟨s, hs, _⟩ := hj
  have := DC.lt ok hs
  have := h.nge
  unfold DC.id at e; omega

theorem DH.wait' (ok : c.OK) {l : Array Bool} {p : Nat} {φ φ' : Phi} {F G F' : AHeap} {w w' : World} (h : DH c l p φ F w) (hn : F.next = G.next) (x : Ext φ G w φ' F' w') {j : Nat} (hj : NewAt c j) (hd : ¬ Done l j) : φ' (c.id j) = none := by
  cases h1 : φ' (c.id j) with
  | none => rfl
  | some z =>
    obtain ⟨q, e, hq, _⟩ := x.newid (c.id j) (h.wait j hj hd) (by simp [h1])
    have := h.small ok hj e
    omega

/-- Behind what neither makes memory nor changes it. -/
theorem DH.read (ok : c.OK) {l : Array Bool} (cl : Closed c l) {p : Nat} {φ φ' : Phi} {F : AHeap} {w w' : World} (h : DH c l p φ F w) {k : Nat} (t : Turn c l k) {s : SOp} (hs : c.so[k]? = some s) (hk : isNew (kindOf P s.op) = false) (hk2 : isEff (kindOf P s.op) = false)
    (r : Rel φ' (c.G p) w') (x : Ext φ (c.G p) w φ' (c.G p) w') : DH c (l.setIfInBounds k true) p φ' F w' := by
  have hkl : k < l.size := by rw [cl.size]; exact t.lt
  obtain ⟨h1, h2⟩ := h.rel.frame h.sub h.next r x (F' := F) h.next fun b => by
    cases hG : (c.G p).get b with
    | some y => rw [h.sub b y hG]
    | none => cases F.get b <;> rfl
  have nk : ∀ j, ¬ Done (l.setIfInBounds k true) j → ¬ Done l j := fun j hj hd => hj ((done_set hkl).2 (.inr hd))
  refine ⟨h.ple, fun j s' g1 g2 => ?_, h.get1, fun j s' g1 => h.get2 j s' (g1.imp id (nk j)), h.get3, h.next, h.nge, h1, h.ext.trans h2, fun j hj hd => h.wait' ok h.next x hj (nk j hd)⟩
  rw [done_set hkl, ← h.eff j s' g1 g2]
  have : j ≠ k := fun e => by subst e; rw [hs] at g1; cases g1; rw [hk2] at g2; cases g2
  exact ⟨fun h => h.resolve_left this, .inr⟩

/-- Behind what changes memory. -/
theorem DH.effect (ok : c.OK) {l : Array Bool} (cl : Closed c l) {φ φ' : Phi} {F : AHeap} {w w' : World} {k : Nat} (h : DH c l k φ F w) (t : Turn c l k) {s : SOp} (hs : c.so[k]? = some s) (hk : isEff (kindOf P s.op) = true)
    (r : Rel φ' (c.G (k + 1)) w') (x : Ext φ (c.G k) w φ' (c.G (k + 1)) w') : ∃ F', DH c (l.setIfInBounds k true) (k + 1) φ' F' w' := by
  have hkl : k < l.size := by rw [cl.size]; exact t.lt
  have nk : ∀ j, ¬ Done (l.setIfInBounds k true) j → ¬ Done l j := fun j hj hd => hj ((done_set hkl).2 (.inr hd))
  have notk : ¬ NewAt c k := fun ⟨s', g1, g2⟩ => by rw [hs] at g1; cases g1; revert hk g2; cases kindOf P s.op <;> simp [isEff, isNew]
  let ids := ((List.range c.ops.size).filter fun j => decide (k ≤ j) && (match c.so[j]? with | some s => isNew (kindOf P s.op) | none => false)).map c.id
  have mem : ∀ b, b ∈ ids ↔ ∃ j, k ≤ j ∧ NewAt c j ∧ b = c.id j := fun b => by
    simp only [ids, List.mem_map, List.mem_filter, List.mem_range, Bool.and_eq_true, decide_eq_true_eq]
    constructor
    · rintro ⟨j, ⟨g1, g2, g3⟩, rfl⟩
      split at g3
      · rename_i s' hs'; exact ⟨j, g2, ⟨s', hs', g3⟩, rfl⟩
      · cases g3
    · rintro ⟨j, g1, ⟨s', hs', g3⟩, rfl⟩
      exact ⟨j, ⟨DC.lt ok hs', g1, by rw [hs']; exact g3⟩, rfl⟩
  have noG : ∀ j, NewAt c j → (c.G k).get (c.id j) = none → (c.G (k + 1)).get (c.id j) = none := fun j hj h0 => by
    cases h1 : (c.G (k + 1)).get (c.id j) with
    | none => rfl
    | some z =>
      obtain ⟨_, q, e, hq, _⟩ := x.newblk _ h0 (by simp [h1])
      have := h.small ok hj e
      have := h.next
      omega
  obtain ⟨F', e1, e2⟩ := lay_blocks F ids (c.G (k + 1))
  have getI : ∀ j, k ≤ j → NewAt c j → F'.get (c.id j) = F.get (c.id j) := fun j g1 g2 => by
    rw [e2, if_pos ⟨by unfold DC.id; omega, (mem _).2 ⟨j, g1, g2, rfl⟩⟩]
  have getO : ∀ b, (∀ j, k ≤ j → NewAt c j → b ≠ c.id j) → F'.get b = (c.G (k + 1)).get b := fun b hb => by
    rw [e2, if_neg fun ⟨_, h2⟩ => by obtain ⟨j, g1, g2, g3⟩ := (mem _).1 h2; exact hb j g1 g2 g3]
  obtain ⟨h1, h2⟩ := h.rel.frame h.sub h.next r x e1 fun b => by
    by_cases hb : b ∈ ids
    · obtain ⟨j, g1, g2, rfl⟩ := (mem b).1 hb
      rw [getI j g1 g2, h.get3 j g1 g2]
      cases hF : F.get (c.id j) with
      | some y => rfl
      | none => simp only; rw [noG j g2 (h.get3 j g1 g2)]
    · have hb' : ∀ j, k ≤ j → NewAt c j → b ≠ c.id j := fun j g1 g2 e => hb ((mem b).2 ⟨j, g1, g2, e⟩)
      rw [getO b hb', h.get1 b hb']
      cases (c.G k).get b <;> rfl
  refine ⟨F', t.lt, fun j s' g1 g2 => ?_, fun b hb => getO b fun j g1 g2 => ?_, fun j s' g1 g2 g3 => ?_, fun j g1 g2 => noG j g2 (h.get3 j (by omega) g2), e1, ?_, h1, h.ext.trans h2, fun j hj hd => h.wait' ok h.next x hj (nk j hd)⟩
  · rw [done_set hkl, h.eff j s' g1 g2]; omega
  · have : j ≠ k := fun e => notk (e ▸ g2)
    exact hb j (by omega) g2
  · have hnew : NewAt c j := ⟨s', g2, g3⟩
    have hjk : j ≠ k := fun e => notk (e ▸ hnew)
    by_cases hj : k ≤ j
    · rw [getI j hj hnew]
      exact h.get2 j s' (.inl hj) g2 g3
    · have hd : ¬ Done l j := nk j (g1.resolve_left (by omega))
      have ho : ∀ i, k ≤ i → NewAt c i → c.id j ≠ c.id i := fun i g1 _ e => by have := id_inj e; omega
      rw [getO _ ho, ← h.get2 j s' (.inr hd) g2 g3, h.get1 _ ho]
      cases hG : (c.G k).get (c.id j) with
      | none => exact noG j hnew hG
      | some y => exact (x.unmapped _ y hG (h.wait j hnew hd)).1
  · have := x.next
    have := h.nge
    have := h.next
    omega

theorem execOp_semAt {X : XT} {ρ ρ' : Operand → Value} {H : AHeap} {o : Oper} {ro : Option Nat} {w : World} (hne : aop X P ρ H o.op ≠ none) : (o.semAt ro ρ').run P w = (execOp ρ' o).run P w := by
  rw [Oper.semAt_eq]
  intro c hc'
  rw [hc'] at hne
  exact hne rfl

/-- One operation whose turn it is. -/
theorem sim_turn (ok : c.OK) {l : Array Bool} (cl : Closed c l) {p : Nat} {φ : Phi} {F : AHeap} {a : Act} {w : World} (h : DH c l p φ F w) (ht : DT c l φ a) {k : Nat} (t : Turn c l k) {ro : Option Nat} {n : Nat} {K : Act → World → Prop} {Q : Exit → Act → World → Prop}
    (hK : ∀ φ' p' F' a' w', Closed c (l.setIfInBounds k true) → DH c (l.setIfInBounds k true) p' φ' F' w' → DT c (l.setIfInBounds k true) φ' a' → a'.defers = a.defers → K a' w') : wpOpIn (FW ro) n P c.ops Q k K a w := by
  have hkl : k < l.size := by rw [cl.size]; exact t.lt
  obtain ⟨o, ho⟩ : ∃ o, c.ops[k]? = some o := ⟨_, Array.getElem?_eq_getElem t.lt⟩
  obtain ⟨s, hs, hst⟩ := ok.strip k o ho
  obtain ⟨hd, hop, hfl⟩ := strip_dst hst
  have cl' := t.closed cl
  -- what it looks at
  have slot : ∀ x, x ∈ named s → VRel φ ((c.E k).get x) (a.tmps.getD x undef) := fun x hx => ht.named ok cl t hs hx
  have hρ : ORels φ (evalO (c.E k)) a.eval o.op := fun x hx => by
    cases x with
    | tmp q => exact slot q (by unfold named; rw [hop]; simp only [List.mem_append, List.mem_filterMap]; exact .inl (.inr ⟨.tmp q, by simpa using hx, rfl⟩))
    | const v => exact flatC_rel (hfl _ hx) φ
    | global g => exact .ptr 0 (h.rel.old g)
    | func f => exact .func _ (fun l => by simp) rfl rfl (fun i h => by simp at h) (fun i h => by simp at h)
  have hw : guardKnown (c.E k) s.guard = true → Region.wanted o (yielded c.ops a.tmps) = wantedE (c.E k) s.guard := fun hg => wanted_rel hst hg fun q hq => slot q (by
    unfold named
    cases hgd : s.guard with
    | none => rw [hgd] at hq; cases hq
    | some g =>
      obtain ⟨x, b⟩ := g
      rw [hgd] at hq
      simp at hq
      simp [hq])
  have rl := ok.loops0.ext ok.rel0 h.ext
  have fin : ∀ {p' φ' F' w' v v'}, φ.le φ' → VRel φ' v v' → c.E (k + 1) = putO (c.E k) s.dst v → DH c (l.setIfInBounds k true) p' φ' F' w' → K (a.put o.dst v') w' := fun {p' φ' F' w' v v'} g1 g2 g3 g4 => by
    rw [← hd]
    exact hK _ _ _ _ _ cl' g4 (ht.done ok cl t hs g1 g2 g3) (put_defers' _ _ _)
  unfold wpOpIn
  rw [ho]
  simp only
  cases hn : isNew (kindOf P s.op) with
  | true =>
    have hnew : NewAt c k := ⟨s, hs, hn⟩
    have hne : isEff (kindOf P s.op) = false := by revert hn; cases kindOf P s.op <;> simp [isEff, isNew]
    obtain ⟨hg, hnx, hcase⟩ := ok.new hs hn
    have nk : ∀ j, ¬ Done (l.setIfInBounds k true) j → j ≠ k ∧ ¬ Done l j := fun j hj => ⟨fun e => hj ((done_set hkl).2 (.inl e)), fun hd => hj ((done_set hkl).2 (.inr hd))⟩
    have eff' : ∀ (j : Nat) s', c.so[j]? = some s' → isEff (kindOf P s'.op) = true → (Done (l.setIfInBounds k true) j ↔ j < p) := fun j s' g1 g2 => by
      rw [done_set hkl, ← h.eff j s' g1 g2]
      have : j ≠ k := fun e => by subst e; rw [hs] at g1; cases g1; rw [hne] at g2; cases g2
      exact ⟨fun h => h.resolve_left this, .inr⟩
    rw [hw hg]
    rcases hcase with ⟨hwt, v, x, hE, hget, hmk⟩ | ⟨hwt, hE, hG⟩
    · rw [if_pos hwt]
      obtain ⟨K0, cs, e, fz, w', v', g1, g2, g3, g4, g5, g6, g7, g8, g9, g10, g11, g12⟩ := hmk o φ w a.eval hop.symm (hop ▸ hρ)
      refine ⟨fun _ _ => trivial, ?_⟩
      have hsem : (o.semAt ro a.eval).run P w = (execOp a.eval o).run P w := by
        rw [Oper.semAt_eq]
        intro c' hc'
        rw [← hop] at hc'
        rw [hc'] at hn
        cases hn
      show o.uponIn (FW ro) n P a K Q ((o.semAt ro a.eval).run P w)
      rw [hsem, g1]
      have hφ := h.wait k hnew t.not
      have hF : F.get (c.id k) = some x := by
        rw [h.get2 k s (.inr t.not) hs hn, if_pos hwt, hget, if_pos rfl]
      have r' := h.rel.newAt hF hφ g3 g7 g8 g9 g10 g11
      have hbase := ok.base_
      have x' := h.ext.newAt (q := c.base + k) (K := K0) (ok.rel0.absent _ (by omega)) (ok.rel0.fresh _ (by omega)) hφ (by omega) (by have := h.nge; have := t.lt; omega) g3 g4 g5 g6
      refine fin (Phi.le_put hφ) g12 hE ⟨h.ple, eff', h.get1, fun j s' q1 => h.get2 j s' (q1.imp id fun q => (nk j q).2), h.get3, h.next, h.nge, r', x', fun j hj hdj => ?_⟩
      obtain ⟨q1, q2⟩ := nk j hdj
      unfold Phi.put
      rw [if_neg fun e => q1 (id_inj e)]
      exact h.wait j hj q2
    · rw [if_neg (by simp [hwt])]
      refine ⟨fun _ _ => trivial, fin (fun _ _ h => h) (flatC_rel (by decide) _) hE ⟨h.ple, eff', h.get1, fun j s' q1 => h.get2 j s' (q1.imp id fun q => (nk j q).2), h.get3, h.next, h.nge, h.rel, h.ext, fun j hj hdj => h.wait j hj (nk j hdj).2⟩⟩
  | false =>
    cases hef : isEff (kindOf P s.op) with
    | true =>
      have hpk : p ≤ k := by
        apply Classical.byContradiction; intro hlt
        exact t.not ((h.eff k s hs hef).2 (by omega))
      obtain ⟨d, rfl⟩ := Nat.exists_eq_add_of_le hpk
      have h' := h.advance ok d (Nat.le_of_lt t.lt) fun j s' g1 g2 g3 => by
        cases g4 : isEff (kindOf P s'.op) with
        | false => rfl
        | true =>
          have hbit : hasBit c.bs (p + d) j = true := by
            have he := ok.effs
            unfold effsOK at he
            rw [List.all_eq_true] at he
            have m1 : ∀ i s', c.so[i]? = some s' → isEff (kindOf P s'.op) = true → i ∈ effsOf P c.so := fun i s' q1 q2 => by
              unfold effsOf
              rw [List.mem_filter, List.mem_range]
              exact ⟨(List.getElem?_eq_some_iff.1 q1).1, by rw [q1]; exact q2⟩
            have h5 := he _ (m1 _ _ hs hef)
            rw [List.all_eq_true] at h5
            have h6 := h5 _ (m1 _ _ g3 g4)
            simpa [g2] using h6
          have := (h.eff j s' g3 g4).1 (t.bits j hbit)
          omega
      obtain ⟨at_, hst'⟩ := ok.step (p + d) s hs
      unfold stepD at hst'
      rw [hn] at hst'
      simp only [Bool.false_eq_true, if_false] at hst'
      have hgk : guardKnown (c.E (p + d)) s.guard = true := by
        unfold stepOp at hst'
        split at hst'
        · cases hst'
        · rename_i hg; simpa using hg
      refine sim_step0 ok.hX ok.hc hst (h'.rel.sub h'.sub h'.next) rl hρ (hw hgk) hst' fun φ' v v' w' g1 g2 g3 g4 => ?_
      obtain ⟨F', hF'⟩ := h'.effect ok cl t hs hef g3 g4
      exact fin g4.mono g2 g1 hF'
    | false =>
      obtain ⟨hG, hst'⟩ := ok.still hs hn hef
      obtain ⟨_, hgk, hcase⟩ := stepOp_still hn hef hst'
      -- where it may be run
      have : ∃ d, DH c l (p + d) φ F w ∧ stepOp c.X P c.call c.Γ s (c.E k) (c.G (p + d)) = some (c.E (k + 1), c.G (p + d)) := by
        rcases hcase with ⟨hwt, v, hE, ha, hpure⟩ | ⟨hwt, hE⟩
        · cases hrd : isRd (kindOf P s.op) with
          | false =>
            refine ⟨0, h, ?_⟩
            unfold stepOp
            rw [hgk, hwt, hpure hrd, hE]
            rfl
          | true =>
            -- the next effect
            have ex : ∀ m p', p' + m = c.ops.size → ∃ d, p' + d ≤ c.ops.size ∧ (∀ (j : Nat) s', p' ≤ j → j < p' + d → c.so[j]? = some s' → isEff (kindOf P s'.op) = false) ∧ (p' + d = c.ops.size ∨ ∃ s', c.so[p' + d]? = some s' ∧ isEff (kindOf P s'.op) = true) := by
              intro m
              induction m with
              | zero => intro p' hp'; exact ⟨0, by omega, fun j s' g1 g2 => by omega, .inl (by omega)⟩
              | succ m ih =>
                intro p' hp'
                have hlt : p' < c.so.length := by rw [ok.len]; omega
                cases he : isEff (kindOf P c.so[p'].op) with
                | true => exact ⟨0, by omega, fun j s' g1 g2 => by omega, .inr ⟨_, List.getElem?_eq_getElem hlt, he⟩⟩
                | false =>
                  obtain ⟨d, g1, g2, g3⟩ := ih (p' + 1) (by omega)
                  refine ⟨d + 1, by omega, fun j s' q1 q2 q3 => ?_, by rw [show p' + (d + 1) = p' + 1 + d by omega]; exact g3⟩
                  by_cases hj : j = p'
                  · subst hj
                    rw [List.getElem?_eq_getElem hlt] at q3; cases q3; exact he
                  · exact g2 j s' (by omega) (by omega) q3
            obtain ⟨d, g1, g2, g3⟩ := ex (c.ops.size - p) p (by have := h.ple; omega)
            refine ⟨d, h.advance ok d g1 g2, ?_⟩
            have hmem : p + d ∈ placesOf (effsOf P c.so) c.bs c.so.length k := by
              unfold placesOf
              rw [List.mem_filter]
              have es : ∀ e, e ∈ effsOf P c.so → ∃ s', c.so[e]? = some s' ∧ isEff (kindOf P s'.op) = true := fun e he => by
                unfold effsOf at he
                rw [List.mem_filter] at he
                obtain ⟨_, he⟩ := he
                split at he
                · rename_i s' hs'; exact ⟨s', hs', he⟩
                · cases he
              refine ⟨?_, ?_⟩
              · rcases g3 with g3 | ⟨s', q1, q2⟩
                · rw [g3, ← ok.len]; simp
                · refine List.mem_append_left _ ?_
                  unfold effsOf
                  rw [List.mem_filter, List.mem_range]
                  exact ⟨(List.getElem?_eq_some_iff.1 q1).1, by rw [q1]; exact q2⟩
              · rw [Bool.and_eq_true, List.all_eq_true, List.all_eq_true]
                refine ⟨fun e he => ?_, fun e he => ?_⟩
                · obtain ⟨s', q1, q2⟩ := es e he
                  cases hb : hasBit c.bs k e with
                  | false => rfl
                  | true =>
                    have := (h.eff e s' q1 q2).1 (t.bits e hb)
                    simp; omega
                · obtain ⟨s', q1, q2⟩ := es e he
                  cases hb : hasBit c.bs e k with
                  | false => rfl
                  | true =>
                    have hnd : ¬ Done l e := fun hde => t.not (cl.out e k hde hb)
                    have h5 : ¬ e < p := fun hlt => hnd ((h.eff e s' q1 q2).2 hlt)
                    have h6 : ¬ e < p + d := fun hlt => by
                      have := g2 e s' (by omega) hlt q1
                      rw [q2] at this; cases this
                    simp; omega
            obtain ⟨u, q1, q2⟩ := ok.again k s hs hrd hwt _ hmem
            unfold aopVal at q1 q2
            rw [ha] at q1
            cases q1
            cases ha2 : aop c.X P (evalO (c.E k)) (c.G (p + d)) s.op with
            | none => rw [ha2] at q2; cases q2
            | some rr =>
              obtain ⟨r, H2⟩ := rr
              obtain ⟨v2, e1, e2, _⟩ := aop_still hn hef ha2
              subst e1; subst e2
              rw [ha2] at q2
              cases q2
              unfold stepOp
              rw [hgk, hwt, ha2, hE]
              rfl
        · refine ⟨0, h, ?_⟩
          unfold stepOp
          rw [hgk, hwt, hE]
          rfl
      obtain ⟨d, h', hst2⟩ := this
      refine sim_step0 ok.hX ok.hc hst (h'.rel.sub h'.sub h'.next) rl hρ (hw hgk) hst2 fun φ' v v' w' g1 g2 g3 g4 => ?_
      exact fin g4.mono g2 g1 (h'.read ok cl t hs hn hef g3 g4)

theorem Ext.congr {φ φ' : Phi} {H H' H'' : AHeap} {w w' : World} (x : Ext φ H w φ' H' w') (hg : ∀ b, H'.get b = H''.get b) (hn : H'.next = H''.next) : Ext φ H w φ' H'' w' :=
  ⟨x.mono, hn ▸ x.next, fun b h h' => by rw [← hn]; exact x.newid b h h', fun c hc hro => ⟨(x.frame c hc hro).1, fun b y K g p => (x.frame c hc hro).2 b y K (by rw [hg]; exact g) p⟩, fun b y g p => by rw [← hg]; exact x.unmapped b y g p,
    fun b g g' => by rw [← hn]; exact x.newblk b g (by rw [hg]; exact g'), x.newat, x.size, x.os, x.tape, x.output⟩

/-- All of them done. -/
theorem sim_end (ok : c.OK) {l : Array Bool} (hall : ∀ k, k < c.ops.size → Done l k) {p : Nat} {φ : Phi} {F : AHeap} {a : Act} {w : World} (h : DH c l p φ F w) (ht : DT c l φ a) :
    EnvRel φ (c.E c.ops.size) a ∧ Rel φ (c.G c.ops.size) w ∧ Ext c.φ0 c.H0 c.w0 φ (c.G c.ops.size) w := by
  obtain ⟨d, hd⟩ := Nat.exists_eq_add_of_le h.ple
  have h' := h.advance ok d (by omega) fun j s g1 g2 g3 => by
    cases g4 : isEff (kindOf P s.op) with
    | false => rfl
    | true =>
      have := (h.eff j s g3 g4).1 (hall j (DC.lt ok g3))
      omega
  rw [← hd] at h'
  have hg : ∀ b, F.get b = (c.G c.ops.size).get b := fun b => h'.get1 b fun k g1 ⟨s, g2, _⟩ => by have := DC.lt ok g2; omega
  refine ⟨?_, h'.rel.sub (fun b x hb => by rw [hg]; exact hb) h'.next, h'.ext.congr hg h'.next⟩
  refine ⟨ht.len c.ops.size (Nat.le_refl _), fun x => ?_⟩
  obtain ⟨i, hi, hw, hr⟩ := ht.slot x
  obtain ⟨d, hd⟩ := Nat.exists_eq_add_of_le hi
  have hs := E_same ok (i := i) d (by omega) (t := x) fun j s g1 g2 g3 g4 => by
    have := (hw j s g3 g4).1 (hall j (DC.lt ok g3))
    omega
  rw [← hd] at hs
  rw [← hs] at hr
  exact hr

theorem sim_any (ok : c.OK) {ro : Option Nat} {n : Nat} {Q : Exit → Act → World → Prop} {d0 : List Deferred}
    (hQ : ∀ φ a' w', a'.defers = d0 → EnvRel φ (c.E c.ops.size) a' → Rel φ (c.G c.ops.size) w' → Ext c.φ0 c.H0 c.w0 φ (c.G c.ops.size) w' → Q .normal a' w') :
    ∀ (fuel : Nat) (l : Array Bool) (p : Nat) (φ : Phi) (F : AHeap) (a : Act) (w : World), l.toList.count false ≤ fuel → Closed c l → DH c l p φ F w → DT c l φ a → a.defers = d0 → wpAnyIn (FW ro) n P .any c.ops Q fuel l a w := by
  intro fuel
  induction fuel with
  | zero =>
    intro l p φ F a w hc cl h ht hd
    have hall : ∀ k, k < c.ops.size → Done l k := fun k hk => by
      have hkl : k < l.size := by rw [cl.size]; exact hk
      have h0 : List.count false l.toList = 0 := by omega
      rw [List.count_eq_zero] at h0
      unfold Done
      rw [Array.getD_eq_getD_getElem?, Array.getElem?_eq_getElem hkl]
      cases hb : l[k] with
      | true => rfl
      | false => exact absurd (by rw [← hb]; simp) h0
    refine ⟨?_, ?_⟩
    · cases hr : Region.ready .any c.ops l with
      | nil => rfl
      | cons k ks =>
        have t := turn_of_ready cl (k := k) (by rw [hr]; simp)
        exact absurd (hall k t.lt) t.not
    · obtain ⟨h1, h2, h3⟩ := sim_end ok hall h ht
      exact hQ φ a w hd h1 h2 h3
  | succ fuel ih =>
    intro l p φ F a w hc cl h ht hd
    refine ⟨fun hr => ?_, fun k hk => ?_⟩
    · obtain ⟨h1, h2, h3⟩ := sim_end ok (cl.all ok hr) h ht
      exact hQ φ a w hd h1 h2 h3
    · have t := turn_of_ready cl hk
      refine sim_turn ok cl h ht t fun φ' p' F' a' w' g1 g2 g3 g4 => ih _ p' φ' F' a' w' ?_ g1 g2 g3 (g4.trans hd)
      have hkl : k < l.size := by rw [cl.size]; exact t.lt
      have hf : l[k] = false := by
        have := t.not
        unfold Done at this
        rw [Array.getD_eq_getD_getElem?, Array.getElem?_eq_getElem hkl] at this
        simpa using this
      rw [Array.toList_setIfInBounds, List.count_set (by simpa using hkl)]
      have hpos : 0 < List.count false l.toList := List.count_pos_iff.2 (by rw [← hf]; simp)
      have h1 : (if (l.toList[k]'(by simpa using hkl) == false) = true then 1 else 0) = 1 := by simp [hf]
      rw [h1]
      have h2 : (if (true == false) = true then 1 else 0) = 0 := rfl
      rw [h2]
      omega

theorem mapM_some {α β : Type} {f : α → Option β} : ∀ {l : List α} {r : List β}, l.mapM f = some r → r.length = l.length ∧ (∀ (k : Nat) a, l[k]? = some a → ∃ b, r[k]? = some b ∧ f a = some b)
  | [], r, h => by simp at h; subst h; simp
  | a :: l, r, h => by
    simp only [List.mapM_cons, Option.bind_eq_bind, Option.bind_eq_some_iff, Option.pure_def, Option.some.injEq] at h
    obtain ⟨b, hb, r', hr, rfl⟩ := h
    obtain ⟨h1, h2⟩ := mapM_some hr
    refine ⟨by simp [h1], fun k x hx => ?_⟩
    cases k with
    | zero => simp at hx; subst hx; exact ⟨b, by simp, hb⟩
    | succ k => simpa using h2 k x (by simpa using hx)

theorem trace_spec {X : XT} {call : ACalls} {Γ : Gam} : ∀ {ds : List DOp} {id : Nat} {env : Env} {H : AHeap} {tr : List (Env × AHeap)}, traceOps X P call Γ id ds env H = some tr →
    tr.length = ds.length + 1 ∧ tr[0]? = some (env, H) ∧ ∀ (k : Nat) d, ds[k]? = some d → ∃ s s', tr[k]? = some s ∧ tr[k + 1]? = some s' ∧ stepD X P call Γ (id + k) d s.1 s.2 = some (s'.1, s'.2)
  | [], id, env, H, tr, h => by cases h; simp
  | d :: ds, id, env, H, tr, h => by
    simp only [traceOps] at h
    split at h
    · rename_i e' H' hs
      simp only [Option.map_eq_some_iff] at h
      obtain ⟨tr', ht, rfl⟩ := h
      obtain ⟨h1, h2, h3⟩ := trace_spec ht
      refine ⟨by simp [h1], by simp, fun k d' hk => ?_⟩
      cases k with
      | zero =>
        simp at hk; subst hk
        exact ⟨(env, H), (e', H'), by simp, by simpa using h2, by simpa using hs⟩
      | succ k =>
        obtain ⟨s, s', g1, g2, g3⟩ := h3 k d' (by simpa using hk)
        exact ⟨s, s', by simpa using g1, by simpa using g2, by rw [show id + (k + 1) = id + 1 + k by omega]; exact g3⟩
    · cases h

theorem stable_spec {X : XT} {tr : List (Env × AHeap)} : ∀ {ds : List DOp} {t : List (Env × AHeap)}, stable X P tr ds t = true → ∀ (k : Nat) d s, ds[k]? = some d → t[k]? = some s →
    wantedE s.1 d.o.guard = true → ∀ p ∈ d.at_, ∃ v, aopVal X P s.1 s.2 d.o.op = some v ∧ readAgain X P tr d.o s.1 v p = true
  | [], t, h, k, d, s, hd, hs, hw, p, hp => by simp at hd
  | d0 :: ds, [], h, k, d, s, hd, hs, hw, p, hp => by simp at hs
  | d0 :: ds, s0 :: t, h, k, d, s, hd, hs, hw, p, hp => by
    simp only [stable, Bool.and_eq_true] at h
    cases k with
    | zero =>
      simp at hd hs; subst hd; subst hs
      have h1 := h.1
      split at h1
      · rename_i he; rw [he] at hp; cases hp
      · rw [if_pos hw] at h1
        split at h1
        · rename_i v hv
          rw [List.all_eq_true] at h1
          exact ⟨v, hv, h1 p hp⟩
        · cases h1
    | succ k => exact stable_spec h.2 k d s (by simpa using hd) (by simpa using hs) hw p hp

/-- A region that draws its order. -/
theorem sim_draw {X : XT} (hX : ExtOK P X) {call : ACalls} (hc : CallOK P call) (hm : P.follows .mixedOrders = true) {ops : Array Oper} {ds : List DOp} (hs : stripDraw P ops = some ds) {Γ : Gam} {φ : Phi} {env env' : Env} {H H' : AHeap} {a : Act} {w : World} {id : Nat} {ro : Option Nat} {n : Nat} {Q : Exit → Act → World → Prop}
    (r : Rel φ H w) (rl : Loops P φ Γ w) (re : EnvRel φ env a) (h : execDraw X P call Γ ds env H = some (env', H'))
    (hQ : ∀ φ' a' w', a'.defers = a.defers → EnvRel φ' env' a' → Rel φ' H' w' → Ext φ H w φ' H' w' → Q .normal a' w') : (Code.region id ops true).wpIn (FW ro) n P Q a w := by
  refine wpIn_region_any hm ?_
  unfold stripDraw at hs
  split at hs
  · cases hs
  rename_i so hso
  simp only at hs
  split at hs
  · rename_i hchk
    simp only [Bool.and_eq_true] at hchk
    obtain ⟨⟨⟨hback, hslots⟩, heffs⟩, hsel⟩ := hchk
    simp only [Option.some.injEq] at hs
    obtain ⟨hlen, hget⟩ := mapM_some hso
    unfold execDraw at h
    split at h
    · rename_i tr htr
      split at h
      · rename_i hstab
        obtain ⟨t1, t2, t3⟩ := trace_spec htr
        have hdl : ds.length = so.length := by rw [← hs]; simp
        have hdk : ∀ (k : Nat) s, so[k]? = some s → ds[k]? = some ⟨s, isNew (kindOf P s.op), if isRd (kindOf P s.op) then placesOf (effsOf P so) (befs ops) so.length k else []⟩ := fun k s hk => by
          rw [← hs, List.getElem?_map, List.getElem?_zipIdx, hk]
          simp
        let dc : DC P := { X, call, Γ, ops, so, E := fun k => (tr.getD k (env, H)).1, G := fun k => (tr.getD k (env, H)).2, base := H.next, φ0 := φ, H0 := H, w0 := { w with drawn := w.drawn + 1 } }
        have trk : ∀ (k : Nat) s, tr[k]? = some s → tr.getD k (env, H) = s := fun k s hk => by rw [List.getD_eq_getElem?_getD, hk]; rfl
        have ok : dc.OK := {
          hX := hX
          hc := hc
          len := by simp [dc, hlen]
          strip := fun k o ho => hget k o (by simpa using ho)
          step := fun k s hk => by
            obtain ⟨s1, s2, g1, g2, g3⟩ := t3 k _ (hdk k s hk)
            refine ⟨if isRd (kindOf P s.op) then placesOf (effsOf P so) (befs ops) so.length k else [], ?_⟩
            simp only [dc]
            rw [trk k s1 g1, trk (k + 1) s2 g2]
            exact g3
          again := fun k s hk hrd hw p hp => by
            obtain ⟨s1, s2, g1, g2, g3⟩ := t3 k _ (hdk k s hk)
            simp only [dc] at hw hp ⊢
            rw [trk k s1 g1] at hw ⊢
            obtain ⟨v, e1, e2⟩ := stable_spec hstab k _ s1 (hdk k s hk) g1 hw p (by rw [if_pos hrd]; exact hp)
            refine ⟨v, e1, ?_⟩
            unfold readAgain at e2
            split at e2
            · rename_i s3 hs3
              rw [trk p s3 hs3]
              split at e2
              · rename_i u hu
                rw [sameV_eq _ _ _ e2]; exact hu
              · cases e2
            · cases e2
          back := hback
          slots := hslots
          effs := heffs
          rel0 := r.draw _
          loops0 := rl.draw _
          base_ := rfl }
        have hsz : ops.size = so.length := by rw [hlen]; simp
        have hE0 : dc.E 0 = env := by simp only [dc]; rw [trk 0 _ t2]
        have hG0 : dc.G 0 = { H with next := H.next + ds.length } := by simp only [dc]; rw [trk 0 _ t2]
        have hEn : dc.E ops.size = env' ∧ dc.G ops.size = H' := by
          have : tr.getLast? = tr[ops.size]? := by rw [List.getLast?_eq_getElem?, t1, hsz, ← hdl]; rfl
          rw [this] at h
          exact ⟨by simp only [dc]; rw [trk _ _ h], by simp only [dc]; rw [trk _ _ h]⟩
        -- the heap with all that is to come
        let ids := ((List.range ops.size).filter fun j => (match so[j]? with | some s => isNew (kindOf P s.op) | none => false)).map dc.id
        let blk : Nat → Option Blk := fun j => match so[j]? with | some s => if wantedE (dc.E j) s.guard = true then (dc.G (j + 1)).get (dc.id j) else none | none => none
        have lay : ∀ m, ∃ F : AHeap, F.next = (dc.G 0).next ∧ ∀ b, F.get b = match (List.range m).find? fun j => decide (b = dc.id j) && (match so[j]? with | some s => isNew (kindOf P s.op) | none => false) with | some j => blk j | none => (dc.G 0).get b := by
          intro m
          induction m with
          | zero => exact ⟨dc.G 0, rfl, fun b => by simp⟩
          | succ m ih =>
            obtain ⟨F, e1, e2⟩ := ih
            cases hm : (match so[m]? with | some s => isNew (kindOf P s.op) | none => false) with
            | false =>
              refine ⟨F, e1, fun b => ?_⟩
              rw [e2, List.range_succ, List.find?_append]
              cases (List.range m).find? fun j => decide (b = dc.id j) && (match so[j]? with | some s => isNew (kindOf P s.op) | none => false) <;> simp [hm]
            | true =>
              have hev : dc.id m % 2 = 0 := by unfold DC.id; omega
              refine ⟨F.set (dc.id m) (blk m), by simpa using e1, fun b => ?_⟩
              rw [List.range_succ, List.find?_append]
              by_cases hb : b = dc.id m
              · subst hb
                have hno : (List.range m).find? (fun j => decide (dc.id m = dc.id j) && (match so[j]? with | some s => isNew (kindOf P s.op) | none => false)) = none := by
                  rw [List.find?_eq_none]
                  intro j hj
                  have : dc.id m ≠ dc.id j := fun e => by have := id_inj e; rw [List.mem_range] at hj; omega
                  simp [this]
                rw [AHeap.get_set_same _ _ hev, hno]
                simp [hm]
              · rw [AHeap.get_set_ne _ _ hev hb, e2]
                cases (List.range m).find? fun j => decide (b = dc.id j) && (match so[j]? with | some s => isNew (kindOf P s.op) | none => false) <;> simp [hb]
        obtain ⟨F, e1, e2⟩ := lay ops.size
        have hnx : F.next = H.next + ops.size := by rw [e1, hG0, hdl, ← hsz]
        have getN : ∀ (k : Nat) s, so[k]? = some s → isNew (kindOf P s.op) = true → F.get (dc.id k) = if wantedE (dc.E k) s.guard = true then (dc.G (k + 1)).get (dc.id k) else none := fun k s hk hn => by
          rw [e2]
          have hf : (List.range ops.size).find? (fun j => decide (dc.id k = dc.id j) && (match so[j]? with | some s => isNew (kindOf P s.op) | none => false)) = some k := by
            cases hq : (List.range ops.size).find? (fun j => decide (dc.id k = dc.id j) && (match so[j]? with | some s => isNew (kindOf P s.op) | none => false)) with
            | none =>
              rw [List.find?_eq_none] at hq
              have := hq k (List.mem_range.2 (DC.lt ok hk))
              simp [hk, hn] at this
            | some j =>
              have := List.find?_some hq
              simp only [Bool.and_eq_true, decide_eq_true_eq] at this
              rw [id_inj this.1]
          rw [hf]
          simp only [blk, hk]
        have getO : ∀ b, (∀ k, NewAt dc k → b ≠ dc.id k) → F.get b = H.get b := fun b hb => by
          rw [e2]
          have hf : (List.range ops.size).find? (fun j => decide (b = dc.id j) && (match so[j]? with | some s => isNew (kindOf P s.op) | none => false)) = none := by
            rw [List.find?_eq_none]
            intro j _ hj
            simp only [Bool.and_eq_true, decide_eq_true_eq] at hj
            obtain ⟨q1, q2⟩ := hj
            split at q2
            · rename_i s hs'; exact hb j ⟨s, hs', q2⟩ q1
            · cases q2
          rw [hf, hG0]; rfl
        have abs : ∀ k, H.get (dc.id k) = none := fun k => r.absent _ (by simp [dc])
        have abφ : ∀ k, φ (dc.id k) = none := fun k => r.fresh _ (by simp [dc])
        have rF : Rel φ F { w with drawn := w.drawn + 1 } := by
          have conv : ∀ b x c K, F.get b = some x → φ b = some (c, K) → H.get b = some x := fun b x c K g p => by
            rw [← getO b fun k _ e => by rw [e, abφ] at p; cases p]
            exact g
          have r1 := r.draw (w.drawn + 1)
          refine ⟨fun b x c K g p => r1.blk b x c K (conv _ _ _ _ g p) p, fun b b' x x' c K K' g g' p p' => r1.inj _ _ _ _ _ _ _ (conv _ _ _ _ g p) (conv _ _ _ _ g' p') p p', fun k hk => r.fresh k (by omega), r.old, fun k hk => ?_⟩
          rw [getO _ fun j ⟨s, hj, _⟩ e => by have := DC.lt ok hj; simp only [DC.id, dc] at e this; omega]
          exact r.absent k (by omega)
        have xF : Ext φ H { w with drawn := w.drawn + 1 } φ F { w with drawn := w.drawn + 1 } := by
          refine ⟨fun _ _ h => h, by omega, fun b h h' => absurd h h', fun c hc hro => ⟨rfl, fun b x K g p => ?_⟩, fun b x g p => ⟨?_, p⟩, fun b g g' => ?_, fun b c K h h' => (by rw [h] at h'; cases h'), Nat.le_refl _, rfl, rfl, rfl⟩
          · rw [getO b fun k _ e => by rw [e, abφ] at p; cases p] at g
            exact hro b x K g p
          · rw [getO b fun k _ e => by rw [e, abs] at g; cases g]; exact g
          · apply Classical.byContradiction
            intro hno
            apply g'
            rw [getO b fun k hk e => hno ?_]
            · exact g
            · obtain ⟨s, hk, _⟩ := hk
              have := DC.lt ok hk
              refine ⟨by rw [e]; exact abφ k, H.next + k, by rw [e]; rfl, by omega, by simp only [dc] at this; omega⟩
        have hsz0 : (Array.replicate ops.size false).size = ops.size := by simp
        have nd : ∀ k, ¬ Done (Array.replicate ops.size false) k := fun k h => by
          unfold Done at h
          rw [Array.getD_eq_getD_getElem?, Array.getElem?_replicate] at h
          split at h <;> simp at h
        have cl : Closed dc (Array.replicate ops.size false) := ⟨hsz0, fun k j h _ => absurd h (nd k)⟩
        have dh : DH dc (Array.replicate ops.size false) 0 φ F { w with drawn := w.drawn + 1 } :=
          ⟨Nat.zero_le _, fun k s _ _ => ⟨fun h => absurd h (nd k), fun h => absurd h (Nat.not_lt_zero _)⟩, fun b hb => by rw [getO b fun k hk => hb k (Nat.zero_le _) hk, hG0]; rfl, fun k s _ hk hn => getN k s hk hn, fun k _ _ => by rw [hG0]; exact abs k,
            e1, by simp only [dc]; omega, rF, xF, fun k _ _ => abφ k⟩
        have elen : ∀ i, i ≤ ops.size → (dc.E i).n = env.n := by
          intro i
          induction i with
          | zero => intro _; rw [hE0]
          | succ i ih =>
            intro hi
            have hlt : i < so.length := by omega
            obtain ⟨v, hv⟩ := ok.put (k := i) (List.getElem?_eq_getElem hlt)
            rw [hv, ← ih (by omega)]
            unfold putO
            split <;> simp
        have dt : DT dc (Array.replicate ops.size false) φ a :=
          ⟨fun i hi => by rw [elen i hi]; exact re.size, fun t => ⟨0, Nat.zero_le _, fun j s _ _ => ⟨fun h => absurd h (nd j), fun h => absurd h (Nat.not_lt_zero _)⟩, by rw [hE0]; exact re.getD t⟩⟩
        refine sim_any ok (d0 := a.defers) (fun φ' a' w' g1 g2 g3 g4 => ?_) ops.size _ 0 φ F a _ ?_ cl dh dt rfl
        · simp only [dc] at g2 g3 g4
          refine hQ φ' a' w' g1 ?_ ?_ ?_
          · rw [← hEn.1]; exact g2
          · rw [← hEn.2]; exact g3
          · rw [← hEn.2]; exact g4.draw
        · simp
      · cases h
    · cases h
  · cases hs

end
end Go.Big
