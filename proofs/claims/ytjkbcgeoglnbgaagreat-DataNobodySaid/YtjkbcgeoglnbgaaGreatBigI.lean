/-
  The operations on values alone.
-/
import Derived.Test.YtjkbcgeoglnbgaaGreatBigH
set_option linter.unusedVariables false
set_option linter.unusedSimpArgs false
namespace Go.Big
section
variable {P : Program}

theorem eqGuard_int (op : BinOp) (t : TypeId) (ox oy : Operand) (k k' : IntKind) (a b : Int) (w : World) : (eqGuard op t ox oy (.int k a) (.int k' b)).run P w = .ok () w := by
  cases op <;> simp [eqGuard]
theorem eqGuard_str (op : BinOp) (t : TypeId) (ox oy : Operand) (a b : ByteArray) (w : World) : (eqGuard op t ox oy (.string a) (.string b)).run P w = .ok () w := by
  cases op <;> simp [eqGuard]

theorem sim_binInt {op : BinOp} {k : IntKind} {a b : Int} {v : Value} (h : binInt op k a b = some v) (t : TypeId) (w : World) :
    (Go.binOp op t (.int k a) (.int k b)).run P w = .ok v w := by
  cases op <;> simp only [binInt] at h <;> first
    | (cases h; done)
    | (cases h; simp [Go.binOp, Op.intArith, Op.intBits, Op.intCmp]; done)
    | (split at h
       · cases h
       · rename_i hb
         cases h
         simp [Go.binOp, Op.intDiv, hb])

theorem sim_shift {op : BinOp} {k k' : IntKind} {a b : Int} {v : Value} (hop : op = .shl ∨ op = .shr) (h : shiftOp op k a b = some v) (t : TypeId) (w : World) :
    (Go.binOp op t (.int k a) (.int k' b)).run P w = .ok v w := by
  unfold shiftOp at h
  split at h
  · cases h
  · rename_i hb
    rcases hop with rfl | rfl
    · cases h; simp [Go.binOp, Op.shift, hb]
    · cases h; simp [Go.binOp, Op.shift, hb]

theorem sim_binStr {op : BinOp} {a b : ByteArray} {v : Value} (h : binStr op a b = some v) (t : TypeId) (w : World) :
    (Go.binOp op t (.string a) (.string b)).run P w = .ok v w := by
  cases op <;> simp only [binStr] at h <;> first
    | (cases h; done)
    | (cases h; simp [Go.binOp, Op.stringOp]; done)
    | (split at h
       · cases h
       · rename_i hb
         cases h
         simp only [Go.binOp, Op.stringOp]
         rw [if_neg hb]; rfl)

theorem eq_runIn {φ : Phi} {t : TypeId} {x y x' y' : Value} {b : Bool} (d : Nat) (h : eqOp P t x y = some b) (hx : VRel φ x x') (hy : VRel φ y y') (w : World) :
    (Op.equalIn (d + 1) t x' y').run P w = .ok b w := by
  unfold eqOp at h
  split at h <;> (try (cases h; done)) <;> rename_i hu
  · cases hx; cases hy; cases h; simp [Op.equalIn, run_underlying hu]
  · cases hx; cases h
    cases hy <;> simp [Op.equalIn, run_underlying hu]
  · cases hy; cases h
    cases hx; simp [Op.equalIn, run_underlying hu]
  · cases hx; cases h
    cases hy <;> simp [Op.equalIn, run_underlying hu]
  · cases hy; cases h
    cases hx <;> simp [Op.equalIn, run_underlying hu]
  · cases hx; cases h
    cases hy <;> simp [Op.equalIn, run_underlying hu]
  · cases hy; cases h
    cases hx; simp [Op.equalIn, run_underlying hu]
  · cases hx; cases hy; cases h; simp [Op.equalIn, run_underlying hu]
  · cases h; cases hx; cases hy <;> simp [Op.equalIn, run_underlying hu]
  · cases h; cases hy; cases hx <;> simp [Op.equalIn, run_underlying hu]
theorem eq_run {φ : Phi} {t : TypeId} {x y x' y' : Value} {b : Bool} (h : eqOp P t x y = some b) (hx : VRel φ x x') (hy : VRel φ y y') (w : World) :
    (Op.equal t x' y').run P w = .ok b w := eq_runIn 9999 h hx hy w

theorem eq_plain {φ : Phi} {t : TypeId} {x y x' y' : Value} {b : Bool} (h : eqOp P t x y = some b) (hx : VRel φ x x') (hy : VRel φ y y') (op : BinOp) (ox oy : Operand) (w : World) :
    (eqGuard op t ox oy x' y').run P w = .ok () w ∧ (Go.binOp .eql t x' y').run P w = .ok (.bool b) w ∧ (Go.binOp .neq t x' y').run P w = .ok (.bool !b) w := by
  have he := eq_run h hx hy w
  unfold eqOp at h
  split at h <;> (try (cases h; done)) <;> rename_i hu <;> cases hx <;> cases hy <;> (refine ⟨by cases op <;> simp [eqGuard], ?_, ?_⟩ <;> simp [Go.binOp, he])

theorem sim_bin {φ : Phi} {op : BinOp} {t : TypeId} {x y x' y' v : Value} (h : binOp P op t x y = some v) (hx : VRel φ x x') (hy : VRel φ y y') (ox oy : Operand) (w : World) :
    (eqGuard op t ox oy x' y').run P w = .ok () w ∧ (Go.binOp op t x' y').run P w = .ok v w ∧ VRel φ v v := by
  unfold binOp at h
  split at h
  · rename_i k a k' b
    cases hx; cases hy
    refine ⟨eqGuard_int _ _ _ _ _ _ _ _ _, ?_⟩
    split at h
    · refine ⟨sim_shift (.inl rfl) h t w, ?_⟩
      unfold shiftOp at h
      split at h
      · cases h
      · cases h; exact .int _ _
    · refine ⟨sim_shift (.inr rfl) h t w, ?_⟩
      unfold shiftOp at h
      split at h
      · cases h
      · cases h; exact .int _ _
    · split at h
      · rename_i hk
        subst hk
        refine ⟨sim_binInt h t w, ?_⟩
        cases op <;> simp only [binInt] at h <;> first
          | (cases h; done)
          | (cases h; first | exact .int _ _ | exact .bool _)
          | (split at h
             · cases h
             · cases h; exact .int _ _)
      · cases h
  · rename_i a b
    cases hx; cases hy
    refine ⟨eqGuard_str _ _ _ _ _ _ _, sim_binStr h t w, ?_⟩
    cases op <;> simp only [binStr] at h <;> first
      | (cases h; done)
      | (cases h; exact .bool _)
      | (split at h
         · cases h
         · cases h; exact .string _)
  · split at h
    · simp only [Option.map_eq_some_iff] at h
      obtain ⟨b, hb, rfl⟩ := h
      obtain ⟨h1, h2, h3⟩ := eq_plain hb hx hy .eql ox oy w
      exact ⟨h1, h2, .bool _⟩
    · simp only [Option.map_eq_some_iff] at h
      obtain ⟨b, hb, rfl⟩ := h
      obtain ⟨h1, h2, h3⟩ := eq_plain hb hx hy .neq ox oy w
      exact ⟨h1, h3, .bool _⟩
    · cases h

theorem sim_un {φ : Phi} {op : UnOp} {x x' v : Value} (h : unOp op x = some v) (hx : VRel φ x x') (w : World) : (Op.unary op x').run P w = .ok v w ∧ VRel φ v v := by
  unfold unOp at h
  split at h
  · cases hx; cases h; exact ⟨by simp [Op.unary, Op.intArith], .int _ _⟩
  · cases hx; cases h; exact ⟨by simp [Op.unary], .bool _⟩
  · cases h

theorem sim_fieldAddr {φ : Phi} {s : TypeId} {x x' v : Value} {f : Nat} (h : fieldAddrOp P s x f = some v) (hx : VRel φ x x') (w : World) :
    ∃ v', (Instr.fieldAt s x' f).run P w = .ok v' w ∧ VRel φ v v' := by
  unfold fieldAddrOp at h
  split at h
  · rename_i fs b o hu
    cases hx with
    | ptr o hb =>
    split at h
    · rename_i fd hf
      split at h
      · rename_i i hi
        split at h
        · cases h
        · rename_i h0
          cases h
          refine ⟨_, ?_, .ptr (o + fd.offset) hb⟩
          simp [Instr.fieldAt, run_underlying hu, hf, Instr.sureAddr, fieldPlace, run_sizeOf' hi, h0, addr_add]
      · cases h
    · cases h
  · cases h

theorem sim_part {φ : Phi} {t : TypeId} {a a' : Array Value} {off : Nat} {v : Value} (h : partOf P t a off = some v) (ha : VRels φ a.toList a'.toList) (w : World) :
    ∃ v', (part t a' off).run P w = .ok v' w ∧ VRel φ v v' := by
  unfold partOf at h
  split at h
  · rename_i i hg hi
    cases h
    refine ⟨.agg (a'.extract off (off + i.size)), by simp [part, run_isAgg' hg, run_sizeOf' hi], ?_⟩
    have := VRel.of_agg ((ha.drop off).take i.size)
    have e : ∀ x : Array Value, x.extract off (off + i.size) = ((x.toList.drop off).take i.size).toArray := fun x => by
      apply Array.ext'
      simp [List.take_drop]
    rw [e a, e a']
    exact this
  · rename_i hg
    obtain ⟨v', h1, h2⟩ := ha.get off v (by simpa using h)
    refine ⟨v', ?_, h2⟩
    have : a'[off]? = some v' := by simpa using h1
    simp [part, run_isAgg' hg, this]
  · cases h

theorem sim_field {φ : Phi} {s : TypeId} {x x' v : Value} {f : Nat} (h : fieldOp P s x f = some v) (hx : VRel φ x x') (w : World) :
    ∃ v', (Instr.field s x' f).run P w = .ok v' w ∧ VRel φ v v' := by
  unfold fieldOp at h
  split at h
  · rename_i fs cs hu
    cases hx with
    | agg ha hxx =>
    rename_i a'
    split at h
    · rename_i fd hf
      obtain ⟨v', h1, h2⟩ := sim_part (P := P) h (VRels.of_arr ha hxx) w
      exact ⟨v', by simp [Instr.field, run_underlying hu, hf, asAgg, h1], h2⟩
    · cases h
  · cases h

theorem sim_indexAddr {φ : Phi} {t : TypeId} {x x' i i' v : Value} (h : indexAddrOp P t x i = some v) (hx : VRel φ x x') (hi : VRel φ i i') (w : World) :
    ∃ v', (Instr.indexAt t x' i').run P w = .ok v' w ∧ VRel φ v v' := by
  unfold indexAddrOp at h
  split at h
  · rename_i e b o len cap k n hu
    cases hi
    split at h
    · rename_i d hd
      split at h
      · rename_i hr
        cases h
        cases hx with
        | slice _ _ _ hb hc =>
          refine ⟨_, ?_, .ptr _ hb⟩
          simp [Instr.indexAt, asIntOf, run_underlying hu, hr, run_sizeOf' hd, addr_add]
        | sliceG _ o' _ _ hb hl ho hk =>
          have hoo : o' = o := by
            rcases ho with h1 | ⟨h1, h2⟩
            · exact h1
            · omega
          subst hoo
          refine ⟨_, ?_, .ptr _ hb⟩
          simp [Instr.indexAt, asIntOf, run_underlying hu, hr, run_sizeOf' hd, addr_add]
      · cases h
    · cases h
  · rename_i len e b o k n hu
    cases hi
    cases hx with
    | ptr _ hb =>
    split at h
    · rename_i d hd
      split at h
      · rename_i hr
        cases h
        refine ⟨_, ?_, .ptr _ hb⟩
        simp [Instr.indexAt, asIntOf, run_underlying hu, hr, run_sizeOf' hd, addr_add, Instr.sureAddr]
      · cases h
    · cases h
  · cases h

theorem sim_index {φ : Phi} {t : TypeId} {x x' i i' v : Value} (h : indexOp P t x i = some v) (hx : VRel φ x x') (hi : VRel φ i i') (w : World) :
    ∃ v', (Instr.index t x' i').run P w = .ok v' w ∧ VRel φ v v' := by
  unfold indexOp at h
  split at h
  · rename_i s k n hu
    cases hi; cases hx
    split at h
    · rename_i h0
      simp only [Option.map_eq_some_iff] at h
      obtain ⟨b, hb, rfl⟩ := h
      exact ⟨_, by simp [Instr.index, asIntOf, run_underlying hu, h0, hb], .int _ _⟩
    · cases h
  · rename_i n e cs k j hu
    cases hi
    cases hx with
    | agg ha hxx =>
    rename_i a'
    split at h
    · rename_i d hd
      split at h
      · rename_i hr
        obtain ⟨v', h1, h2⟩ := sim_part (P := P) h (VRels.of_arr ha hxx) w
        exact ⟨v', by simp [Instr.index, asIntOf, run_underlying hu, hr, run_sizeOf' hd, h1], h2⟩
      · cases h
    · cases h
  · cases h

theorem sim_extract {φ : Phi} {x x' v : Value} {i : Nat} (h : extractOp x i = some v) (hx : VRel φ x x') (w : World) :
    ∃ v', (Instr.extract x' i).run P w = .ok v' w ∧ VRel φ v v' := by
  unfold extractOp at h
  split at h
  · cases hx with
    | tuple ha hxx =>
    obtain ⟨v', h1, h2⟩ := (VRels.of_arr ha hxx).get i v (by simpa using h)
    refine ⟨v', ?_, h2⟩
    rename_i a'
    have : a'[i]? = some v' := by simpa using h1
    simp [Instr.extract, this]
  · cases h

theorem sim_bound {φ : Phi} {v v' : Value} {hi r : Nat} (h : bound hi v = some r) (hv : VRel φ v v') (code : BoundsCode) (w : World) :
    r ≤ hi ∧ ∀ hi', r ≤ hi' → (Instr.sliceBound v' hi' code).run P w = .ok r w := by
  unfold bound at h
  split at h
  · rename_i k i
    cases hv
    split at h
    · rename_i hc
      cases h
      refine ⟨by omega, fun hi' hle => ?_⟩
      have h2 : 0 ≤ i ∧ i ≤ (hi' : Int) := ⟨hc.1, by omega⟩
      simp [Instr.sliceBound, asIntOf, h2]
    · cases h
  · cases h

inductive ORel (φ : Phi) : Option Value → Option Value → Prop
  | none : ORel φ none none
  | some {v v' : Value} (h : VRel φ v v') : ORel φ (some v) (some v')

theorem ORel.isSome {φ : Phi} {x y : Option Value} (h : ORel φ x y) : y.isSome = x.isSome := by cases h <;> rfl

theorem sim_bounds {φ : Phi} {lo hi mx lo' hi' mx' : Option Value} (hlo : ORel φ lo lo') (hhi : ORel φ hi hi') (hmx : ORel φ mx mx') {k len cap' l h m : Nat} (hb : bounds3 k len lo hi mx = some (l, h, m)) (hk : k ≤ cap') (s : Bool) (w : World) :
    (Instr.sliceBounds s len cap' lo' hi' mx').run P w = .ok (l, h, if mx.isSome then m else cap') w ∧ l ≤ h ∧ (h ≤ m ∨ (hi = none ∧ h = len)) ∧ m ≤ k ∧ (mx = none → m = k) := by
  unfold bounds3 at hb
  split at hb
  · cases hb
  rename_i m0 hm
  split at hb
  · cases hb
  rename_i h0 hh
  split at hb
  · cases hb
  rename_i l0 hl
  split at hb
  · rename_i hc
    cases hb
    obtain ⟨hc1, hc2⟩ := hc
    refine ⟨?_, hc1, hc2.imp id (fun q => ⟨by simpa using q.1, q.2⟩), ?_, ?_⟩
    · cases hmx with
      | none =>
        cases hm
        cases hhi with
        | none =>
          cases hh
          cases hlo with
          | none => cases hl; simp [Instr.sliceBounds]
          | some hv => simp [Instr.sliceBounds, (sim_bound (P := P) hl hv _ w).2 _ (by omega)]
        | some hv2 =>
          have e2 := fun c => (sim_bound (P := P) hh hv2 c w).2 cap' (by have := (sim_bound (P := P) hh hv2 c w).1; omega)
          cases hlo with
          | none => cases hl; simp [Instr.sliceBounds, e2]
          | some hv => simp [Instr.sliceBounds, e2, (sim_bound (P := P) hl hv _ w).2 _ (by omega)]
      | some hv3 =>
        have e3 := fun c => (sim_bound (P := P) hm hv3 c w).2 cap' (by have := (sim_bound (P := P) hm hv3 c w).1; omega)
        cases hhi with
        | none => cases hh
        | some hv2 =>
          have e2 := fun c => (sim_bound (P := P) hh hv2 c w).2 m (by have := (sim_bound (P := P) hh hv2 c w).1; omega)
          cases hlo with
          | none => cases hl; simp [Instr.sliceBounds, e2, e3]
          | some hv => simp [Instr.sliceBounds, e2, e3, (sim_bound (P := P) hl hv _ w).2 _ (by omega)]
    · cases hmx with
      | none => cases hm; exact Nat.le_refl _
      | some hv3 => exact (sim_bound (P := P) hm hv3 .index w).1
    · intro e; subst e; cases hm; rfl
  · cases hb

theorem sim_slice {φ : Phi} {H : AHeap} {w : World} (r : Rel φ H w) {t : TypeId} {x x' v : Value} {lo hi mx lo' hi' mx' : Option Value} (h : sliceOp P t x lo hi mx H = some v) (hx : VRel φ x x') (hlo : ORel φ lo lo') (hhi : ORel φ hi hi') (hmx : ORel φ mx mx') :
    ∃ v', (Instr.sliceAt t x' lo' hi' mx').run P w = .ok v' w ∧ VRel φ v v' := by
  unfold sliceOp at h
  split at h
  · rename_i s hu
    cases hx
    split at h
    · cases h
    · rename_i hm
      cases hmx with
      | some _ => exact absurd rfl hm
      | none =>
      split at h
      · rename_i l hh m hb
        cases h
        obtain ⟨h1, _⟩ := sim_bounds (P := P) hlo hhi .none hb (Nat.le_refl _) false w
        refine ⟨_, ?_, .string _⟩
        simp [Instr.sliceAt, run_underlying hu, Instr.slice, h1]
      · cases h
  · rename_i e len cap hu
    cases hx
    split at h
    · rename_i i l hh m hi2 hb
      cases h
      obtain ⟨h1, h2, h3, h4, h5⟩ := sim_bounds (P := P) hlo hhi hmx hb (Nat.le_refl _) true w
      refine ⟨_, ?_, .nilSlice _ _⟩
      have hme : (if mx.isSome then m else cap) = m := by
        cases mx with
        | none => simp [h5 rfl]
        | some _ => rfl
      rw [hme] at h1
      simp [Instr.sliceAt, run_underlying hu, Instr.slice, h1, run_sizeOf' hi2]
    · cases h
  · rename_i e b o len cap hu
    split at h
    · cases h
    rename_i i hi2
    split at h
    · cases h
    rename_i l hh m hb
    obtain ⟨c, K, o', cap', hφ, rfl, hk1, ho, hex, hgr⟩ := knownCap_le (e := i.size) r hx
    split at h
    · rename_i hcg
      subst hcg
      split at h
      · cases h
      rename_i hsz
      cases hx with
      | slice _ _ _ _ hc => exact absurd rfl hc
      | sliceG _ _ _ _ hφ2 hl ho2 hk2 =>
      have hle : knownCap H b o i.size len capG ≤ cap' := by
        have : len ≤ knownCap H b o i.size len capG := by
          unfold knownCap
          rw [if_pos rfl]
          split
          · split
            · exact Nat.le_max_left _ _
            · exact Nat.le_refl _
          · exact Nat.le_refl _
        exact (hk1 this).2
      obtain ⟨h1, h2, h3, h4, h5⟩ := sim_bounds (P := P) hlo hhi hmx hb hle true w
      split at h
      · rename_i hms
        split at h
        · rename_i hc
          obtain ⟨rfl, hne⟩ := hc
          cases h
          obtain ⟨rfl, rfl⟩ := hgr rfl rfl
          rw [hms] at h1
          refine ⟨_, ?_, .slice (if m = l then 0 else 0 + l * i.size) (hh - l) (m - l) hφ hne⟩
          simp only [if_true] at h1
          by_cases hml : m = l
          · simp [Instr.sliceAt, run_underlying hu, Instr.slice, h1, run_sizeOf' hi2, hml]
          · simp [Instr.sliceAt, run_underlying hu, Instr.slice, h1, run_sizeOf' hi2, hml, addr_add]
        · cases h
      · rename_i hms
        have hmn : mx = none := by cases mx with
          | none => rfl
          | some _ => exact absurd rfl hms
        subst hmn
        split at h
        · rename_i hlm
          cases h
          have hmk := h5 rfl
          simp only [Option.isSome_none, Bool.false_eq_true, if_false] at h1
          have hhc : hh ≤ cap' := by rcases h3 with h3 | ⟨_, h3⟩ <;> omega
          refine ⟨_, ?_, .sliceG (o + l * i.size) (if cap' = l then o' else o' + l * i.size) (hh - l) (cap' - l) hφ (by omega) ?_ ?_⟩
          · by_cases hml : cap' = l
            · subst hml
              simp [Instr.sliceAt, run_underlying hu, Instr.slice, h1, run_sizeOf' hi2]
            · simp [Instr.sliceAt, run_underlying hu, Instr.slice, h1, run_sizeOf' hi2, hml, addr_add]
          · by_cases hml : cap' = l
            · rw [if_pos hml]
              by_cases hl0 : l = 0
              · subst hl0
                rcases ho2 with h6 | ⟨h6, h7, h8⟩
                · exact .inl (by simp [h6])
                · exact .inr ⟨by omega, by omega, by simpa using h8⟩
              · refine .inr ⟨by omega, by omega, ?_⟩
                have : 0 < l * i.size := Nat.mul_pos (by omega) (by omega)
                omega
            · rw [if_neg hml]
              rcases ho2 with h6 | ⟨h6, h7, h8⟩
              · exact .inl (by rw [h6])
              · omega
          · intro h0
            have hl0 : l = 0 := by
              apply Classical.byContradiction; intro hne
              have : 0 < l * i.size := Nat.mul_pos (by omega) (by omega)
              omega
            subst hl0
            have := hk2 (by omega)
            omega
        · cases h
    · rename_i hcg
      obtain ⟨rfl, rfl⟩ := hex hcg
      have hkn : knownCap H b o' i.size len cap' = cap' := by unfold knownCap; rw [if_neg hcg]
      rw [hkn] at hb
      obtain ⟨h1, h2, h3, h4, h5⟩ := sim_bounds (P := P) hlo hhi hmx hb (Nat.le_refl _) true w
      have hme : (if mx.isSome then m else cap') = m := by
        cases mx with
        | none => simp [h5 rfl]
        | some _ => rfl
      rw [hme] at h1
      split at h
      · rename_i hne
        cases h
        refine ⟨_, ?_, .slice (if m = l then o' else o' + l * i.size) (hh - l) (m - l) hφ hne⟩
        by_cases hml : m = l
        · simp [Instr.sliceAt, run_underlying hu, Instr.slice, h1, run_sizeOf' hi2, hml]
        · simp [Instr.sliceAt, run_underlying hu, Instr.slice, h1, run_sizeOf' hi2, hml, addr_add]
      · cases h
  · cases h
end
end Go.Big
