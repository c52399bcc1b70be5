/-
  The operations that make memory: a new variable, a slice, append, copy, the bytes of a string.
-/
import Derived.Test.YtjkbcgeoglnbgaaGreatBigC
set_option linter.unusedVariables false
namespace Go.Big

/-- A run of the model's ends as the abstract operation says. -/
def Sims (P : Program) (φ : Phi) (H : AHeap) (w : World) (s : Sem Value) (v : Value) (H' : AHeap) : Prop :=
  ∃ φ' v' w', s.run P w = .ok v' w' ∧ VRel φ' v v' ∧ Rel φ' H' w' ∧ Ext φ H w φ' H' w'

theorem Sims.pure {P : Program} {φ : Phi} {H : AHeap} {w : World} (r : Rel φ H w) {s : Sem Value} {v v' : Value} (h : s.run P w = .ok v' w) (hv : VRel φ v v') : Sims P φ H w s v H :=
  ⟨φ, v', w, h, hv, r, Ext.refl _ _ _⟩

section
variable {P : Program}

theorem Rel.drop {φ : Phi} {H : AHeap} {w : World} (r : Rel φ H w) {b c K : Nat} {x : Blk} (hx : H.get b = some x) (hb : φ b = some (c, K)) (hev : b % 2 = 0) :
    Rel φ (H.set b none) w ∧ Ext φ H w φ (H.set b none) w := by
  have conv : ∀ q y, (H.set b none).get q = some y → q ≠ b ∧ H.get q = some y := fun q y hy => by
    by_cases hq : q = b
    · subst hq; rw [AHeap.get_set_same _ _ hev] at hy; cases hy
    · rw [AHeap.get_set_ne _ _ hev hq] at hy; exact ⟨hq, hy⟩
  constructor
  · refine ⟨fun b2 x2 c2 K2 g p => r.blk _ _ _ _ (conv _ _ g).2 p, fun b1 b2 x1 x2 c0 K1 K2 g1 g2 p1 p2 => r.inj _ _ _ _ _ _ _ (conv _ _ g1).2 (conv _ _ g2).2 p1 p2, r.fresh, r.old, fun k hk => ?_⟩
    by_cases hq : 2 * k = b
    · rw [hq, AHeap.get_set_same _ _ hev]
    · rw [AHeap.get_set_ne _ _ hev hq]; exact r.absent k hk
  · refine ⟨fun _ _ h => h, Nat.le_refl _, fun b h h' => absurd h h', fun c2 hc2 hro => ⟨rfl, fun b2 x2 K2 g p => hro _ _ _ (conv _ _ g).2 p⟩, fun b2 x2 g p => ?_, fun b2 g g' => ?_, (fun b c K h h' => by rw [h] at h'; cases h'), Nat.le_refl _, rfl, rfl, rfl⟩
    · have hq : b2 ≠ b := fun e => by subst e; rw [hb] at p; cases p
      exact ⟨by rw [AHeap.get_set_ne _ _ hev hq]; exact g, p⟩
    · cases h : (H.set b none).get b2 with
      | none => exact absurd h g'
      | some y => rw [(conv _ _ h).2] at g; cases g

/-- A block with spare room is written behind what was known of it, in place: it gets a new name. -/
theorem Rel.regrow {φ : Phi} {H : AHeap} {w w' : World} (r : Rel φ H w) {b c K : Nat} {x y : Blk} (hx : H.get b = some x) (hb : φ b = some (c, K)) (hev : b % 2 = 0) (hro : x.ro = false) (hyro : y.ro = false)
    {cs cs' : Array Value} {e : TypeId} {fz : Nat × Nat} (h : w.heap[c]? = some (.cells cs e fz)) (h' : w'.heap[c]? = some (.cells cs' e fz)) (hsz : cs'.size = cs.size)
    (hf : ∀ o, o < cs.size → ¬ (fz.1 ≤ o ∧ o < fz.2)) {e0 : Nat} (hg : y.grow = some e0) (hK : cs.size = K * e0) (hl : y.cells.length ≤ cs.size)
    (hr : ∀ (i : Nat) (v : Value), y.cells[i]? = some v → ∃ v', cs'[i]? = some v' ∧ VRel φ v v') (ho : Wrote w w' c) :
    Rel (φ.put H.fresh c K) ((H.set b none).alloc y) w' ∧ Ext φ H w (φ.put H.fresh c K) ((H.set b none).alloc y) w' := by
  have hfr := r.fresh'
  have hbf : b ≠ H.fresh := fun e => by rw [e, hfr] at hb; cases hb
  have ffr : (H.set b none).fresh = H.fresh := rfl
  have hno : H.get H.fresh = none := r.absent _ (Nat.le_refl _)
  have conv : ∀ q z, ((H.set b none).alloc y).get q = some z → (q = H.fresh ∧ z = y) ∨ (q ≠ H.fresh ∧ q ≠ b ∧ H.get q = some z) := fun q z hz => by
    by_cases hq : q = H.fresh
    · refine .inl ⟨hq, ?_⟩
      rw [hq, ← ffr, AHeap.get_alloc_same] at hz
      exact (Option.some.inj hz).symm
    · rw [AHeap.get_alloc_ne _ _ (ffr ▸ hq)] at hz
      by_cases hqb : q = b
      · rw [hqb, AHeap.get_set_same _ _ hev] at hz; cases hz
      · rw [AHeap.get_set_ne _ _ hev hqb] at hz; exact .inr ⟨hq, hqb, hz⟩
  have put_ne : ∀ q, q ≠ H.fresh → (φ.put H.fresh c K) q = φ q := fun q hq => by unfold Phi.put; rw [if_neg hq]
  constructor
  · constructor
    · intro b2 x2 c2 K2 g p
      rcases conv _ _ g with ⟨rfl, rfl⟩ | ⟨h1, h2, g⟩
      · rw [Phi.put_same] at p; cases p
        refine ⟨cs', e, fz, h', by omega, (fun hn => by rw [hg] at hn; cases hn), fun e1 he => ?_, fun i v hi => ?_, fun _ => by rw [hsz]; exact hf⟩
        · rw [hg] at he; cases he; rw [hsz]; exact hK
        · obtain ⟨v', p1, p2⟩ := hr i v hi
          exact ⟨v', p1, p2.mono (Phi.le_put hfr)⟩
      · rw [put_ne _ h1] at p
        have hc : c2 ≠ c := fun e => by subst e; exact h2 (r.inj _ _ _ _ _ _ _ g hx p hb)
        obtain ⟨cs0, e1, fz0, q1, q2, q3, q4, q5, q6⟩ := (r.blk b2 x2 c2 K2 g p).out
        refine ⟨cs0, e1, fz0, by rw [ho.other _ hc, q1], q2, q3, q4, fun i v hi => ?_, q6⟩
        obtain ⟨v', p1, p2⟩ := q5 i v hi
        exact ⟨v', p1, p2.mono (Phi.le_put hfr)⟩
    · intro b1 b2 x1 x2 c0 K1 K2 g1 g2 p1 p2
      rcases conv _ _ g1 with ⟨rfl, e1⟩ | ⟨h1, h2, g1⟩
      · rcases conv _ _ g2 with ⟨rfl, e2⟩ | ⟨k1, k2, g2⟩
        · rfl
        · rw [Phi.put_same] at p1; cases p1
          rw [put_ne _ k1] at p2
          exact absurd (r.inj _ _ _ _ _ _ _ g2 hx p2 hb) k2
      · rw [put_ne _ h1] at p1
        rcases conv _ _ g2 with ⟨rfl, e2⟩ | ⟨k1, k2, g2⟩
        · rw [Phi.put_same] at p2; cases p2
          exact absurd (r.inj _ _ _ _ _ _ _ g1 hx p1 hb) h2
        · rw [put_ne _ k1] at p2
          exact r.inj _ _ _ _ _ _ _ g1 g2 p1 p2
    · intro k hk
      simp only [AHeap.next_alloc, AHeap.next_set] at hk
      rw [put_ne _ (by unfold AHeap.fresh; omega)]
      exact r.fresh k (by omega)
    · intro q
      rw [put_ne _ (by unfold AHeap.fresh; omega)]
      exact r.old q
    · intro k hk
      simp only [AHeap.next_alloc, AHeap.next_set] at hk
      cases hz : ((H.set b none).alloc y).get (2 * k) with
      | none => rfl
      | some z =>
        rcases conv _ _ hz with ⟨h1, _⟩ | ⟨_, _, g⟩
        · unfold AHeap.fresh at h1; omega
        · rw [r.absent k (by omega)] at g; cases g
  · refine ⟨Phi.le_put hfr, by simp, ?_, ?_, ?_, ?_, (fun b2 c2 K2 h1 h2 => by
      by_cases hbb : b2 = H.fresh
      · subst hbb; rw [Phi.put_same] at h2; cases h2; exact .inr ⟨b, x, hx, hb⟩
      · rw [put_ne _ hbb, h1] at h2; cases h2), by rw [ho.size]; exact Nat.le_refl _, ho.os, ho.tape, ho.output⟩
    · intro q g g'
      have : q = H.fresh := by
        apply Classical.byContradiction; intro hne
        apply g'; rw [put_ne _ hne]; exact g
      exact ⟨H.next, this, Nat.le_refl _, by simp⟩
    · intro c2 hc2 hro2
      have hne : c2 ≠ c := fun e => by subst e; have := hro2 b x K hx hb; rw [hro] at this; cases this
      refine ⟨ho.other _ hne, fun b2 x2 K2 g p => ?_⟩
      rcases conv _ _ g with ⟨rfl, rfl⟩ | ⟨h1, h2, g⟩
      · rw [Phi.put_same] at p; cases p; exact absurd rfl hne
      · rw [put_ne _ h1] at p; exact hro2 _ _ _ g p
    · intro b2 x2 g p
      have h1 : b2 ≠ H.fresh := fun e => by subst e; rw [hno] at g; cases g
      have h2 : b2 ≠ b := fun e => by subst e; rw [hb] at p; cases p
      refine ⟨?_, by rw [put_ne _ h1]; exact p⟩
      rw [AHeap.get_alloc_ne _ _ (ffr ▸ h1), AHeap.get_set_ne _ _ hev h2]; exact g
    · intro b2 g g'
      cases hz : ((H.set b none).alloc y).get b2 with
      | none => exact absurd hz g'
      | some z =>
        rcases conv _ _ hz with ⟨h1, _⟩ | ⟨_, _, g2⟩
        · exact ⟨by rw [h1]; exact hfr, H.next, h1, Nat.le_refl _, by simp⟩
        · rw [g2] at g; cases g

theorem sim_newVar {φ : Phi} {H : AHeap} {w : World} (r : Rel φ H w) {t : TypeId} {cells : List Value} {v' : Value} (hv : VRels φ cells v'.cells.toList) :
    Sims P φ H w (do pure (.pointer (some (← newVar t v')))) (newOp H cells).1 (newOp H cells).2 := by
  obtain ⟨p1, p2⟩ := r.new (x := { cells }) (c := w.heap.size) (K := 0) (cs := v'.cells) (e := t) (fz := (0, 0)) (w' := { w with heap := w.heap.push (.cells v'.cells t) }) rfl rfl rfl rfl rfl rfl
    (by simp [hv.length]) (fun _ => by simp [hv.length]) (fun e he => by cases he) (fun i v hi => by simpa using hv.get i v hi) (fun o _ => by omega)
  refine ⟨_, .pointer (some ⟨w.heap.size, 0, none⟩), _, ?_, .ptr 0 (Phi.put_same _ _ _ _), p1, p2⟩
  simp [newVar, newRow]

theorem zeroOf_spec {t : TypeId} {z : List Value} (h : zeroOf P t = some z) : ∃ i v, P.info? t = some i ∧ i.zero = some v ∧ v.cells.size = i.size ∧ z = v.cells.toList := by
  unfold zeroOf at h
  split at h
  · rename_i i hi
    split at h
    · rename_i v hv
      split at h
      · rename_i hs
        cases h
        exact ⟨i, v, hi, hv, hs.1, rfl⟩
      · cases h
    · cases h
  · cases h


theorem flatV_rel {v : Value} (h : flatV v = true) (φ : Phi) : VRel φ v v := by
  cases v with
  | bool b => exact .bool b
  | int k n => exact .int k n
  | float k n => exact .float k n
  | complex k a b => exact .complex k a b
  | string s => exact .string s
  | pointer a => cases a with
    | none => exact .nilPtr
    | some a => cases h
  | slice a l c => cases a with
    | none => exact .nilSlice l c
    | some a => cases h
  | map r => cases r with
    | none => exact .nilMap
    | some r => cases h
  | nilFunc => exact .nilFunc
  | nilIface => exact .nilIface
  | chan r => cases h
  | func fn a b => cases h
  | iface t v => cases h
  | agg cs => cases h
  | tuple cs => cases h
theorem flats_rel (φ : Phi) : ∀ {l : List Value}, l.all flatV = true → VRels φ l l
  | [], _ => .nil
  | v :: l, h => by
    simp only [List.all_cons, Bool.and_eq_true] at h
    exact .cons (flatV_rel h.1 φ) (flats_rel φ h.2)
theorem flatC_rel {v : Value} (h : flatC v = true) (φ : Phi) : VRel φ v v := by
  cases v with
  | agg cs => simpa using VRel.of_agg (flats_rel φ (l := cs.toList) h)
  | tuple cs => simpa using VRel.of_tuple (flats_rel φ (l := cs.toList) h)
  | _ => exact flatV_rel (by simpa only [flatC] using h) φ

/-- a zero value's cells are alike under every naming -/
def Flat (l : List Value) : Prop := ∀ φ : Phi, VRels φ l l
theorem zeroOf_flat {t : TypeId} {z : List Value} (h : zeroOf P t = some z) : Flat z := by
  unfold zeroOf at h
  split at h
  · split at h
    · split at h
      · rename_i hs
        cases h
        exact fun φ => flats_rel φ hs.2
      · cases h
    · cases h
  · cases h

end
end Go.Big
