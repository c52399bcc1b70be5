/-
  The given program under the abstract run; its library's functions without a Go body.
-/
import Derived.Test.YtjkbcgeoglnbgaaGreatBigU
import Derived.Test.YtjkbcgeoglnbgaaGreatChecked
import Derived.Lib.MakeNoZero
import Derived.Laws.Externs
import Derived.Below
set_option linter.unusedVariables false
set_option linter.unusedSimpArgs false
namespace Go.Big
section
variable {P : Program}

/-- bytealg.MakeNoZero: bytes of which nothing is known. -/
def extMake (args : List Value) (H : AHeap) : Option (Value × AHeap) :=
  match args with
  | [.int .i64 n] => if 0 ≤ n ∧ n < 1000000 then some (.slice (some ⟨H.fresh, 0, none⟩) n.toNat capG, H.alloc { cells := List.replicate n.toNat (.chan none), grow := some 1 }) else none
  | _ => none

theorem digits_one : ∀ (n t : Nat) (acc : Array Value), (∀ v ∈ acc, v.oneCell' = true) → ∀ v ∈ Extern.BytealgMakeNoZero.digits n t acc, v.oneCell' = true
  | 0, t, acc, h => h
  | n + 1, t, acc, h => by
    rw [Extern.BytealgMakeNoZero.digits]
    refine digits_one n _ _ fun v hv => ?_
    rcases Array.mem_push.1 hv with hv | rfl
    · exact h v hv
    · rfl

theorem run_makeNoZero_one (ps : Array TypeId) (t e : TypeId) (ht : P.underlying t = some (.slice e)) (n : Nat) (hn : n ≤ 281474976710656) (w : World) :
    ∃ cs : Array Value, (Extern.BytealgMakeNoZero.makeNoZero ps #[t] #[.int .i64 n]).run P w = .ok (.slice (some ⟨w.heap.size, 0, none⟩) n cs.size) (w.drew.drew.alloc (.cells cs e)) ∧ n ≤ cs.size ∧ ∀ v ∈ cs, v.oneCell' = true := by
  have hdef : Extern.BytealgMakeNoZero.makeNoZero ps #[t] #[.int .i64 n] =
      (do
        let .slice elem ← underlying t | stuck "bytealg.MakeNoZero: slice type expected"
        if (n : Int) < 0 || (n : Int) > 2 ^ 48 then runtimePanic (.error "makeslice: len out of range")
        let cap ← choose (.appendCap (n : Int).toNat 0 elem)
        askRoom cap
        let bytes ← choose (.extern "internal/bytealg.MakeNoZero.bytes" 0)
        let a ← newRow elem (Extern.BytealgMakeNoZero.digits cap bytes #[])
        pure (.slice (some a) (n : Int).toNat cap)) := rfl
  refine ⟨Extern.BytealgMakeNoZero.digits (grownCap w n 0 e) ((Question.extern "internal/bytealg.MakeNoZero.bytes" 0).cut (w.tape (w.drawn + 1) (.extern "internal/bytealg.MakeNoZero.bytes" 0))) #[], ?_, ?_, digits_one _ _ _ (by simp)⟩
  · rw [hdef]
    have h1 : ¬ (n : Int) < 0 := by omega
    have h2 : ¬ (281474976710656 : Int) < (n : Int) := by omega
    simp [run_underlying ht, h1, h2, Question.forced, newRow, Go.Lib.size_digits, grownCap]
  · rw [Go.Lib.size_digits]
    simpa using grownCap_ge w n 0 e

theorem ext_make {f : FuncId} {fn : Func} {ps : Array TypeId} {t e : TypeId} (hf : P.funcs[f]? = some fn) (hname : (fn.name == "runtime.NumGoroutine") = false) (hb : fn.body.isNone = true) (hn : Extern.findNext fn = none)
    (he : Extern.find fn = some (Extern.BytealgMakeNoZero.makeNoZero ps #[t])) (ht : P.underlying t = some (.slice e)) :
    ∀ args H v H', extMake args H = some (v, H') → ∀ φ w (args' : Array Value), Rel φ H w → VRels φ args args'.toList →
      ∃ φ' v' w', (callFunc f args').run P w = .ok (.value v') w' ∧ VRel φ' v v' ∧ Rel φ' H' w' ∧ Ext φ H w φ' H' w' := by
  intro args H v H' h φ w args' r ra
  unfold extMake at h
  split at h
  · rename_i n
    split at h
    · rename_i hn2
      cases h
      have hargs : args' = #[.int .i64 n] := by
        apply Array.ext'
        generalize args'.toList = l at ra
        cases ra with
        | cons hv ht => cases ht; cases hv; rfl
      subst hargs
      obtain ⟨k, rfl⟩ := Int.eq_ofNat_of_zero_le hn2.1
      obtain ⟨cs, h1, h2, h3⟩ := run_makeNoZero_one (P := P) ps t e ht k (by omega) w
      obtain ⟨p1, p2⟩ := r.new (x := { cells := List.replicate k (.chan none), grow := some 1 }) (c := w.heap.size) (K := cs.size) (cs := cs) (e := e) (fz := (0, 0)) (w' := w.drew.drew.alloc (.cells cs e)) rfl rfl rfl rfl rfl rfl
        (by simpa using h2) (fun h => by cases h) (fun e' he' => by cases he'; simp) (fun i v hi => by
          obtain ⟨hlt, hv⟩ := List.getElem?_eq_some_iff.1 hi
          simp at hlt hv
          subst hv
          exact ⟨cs[i], by simp, .any (h3 _ (by simp))⟩) (fun o _ => by omega)
      exact ⟨_, _, _, by rw [run_callFunc_extern hf hname hb hn he, h1]; rfl, .sliceG 0 0 _ _ (Phi.put_same _ _ _ _) h2 (.inl rfl) (fun _ => rfl), p1, p2⟩
    · cases h
  · cases h

/-- A function without what a run does not look at. -/
def stripFun (P : Program) (f : Func) : Option SFun :=
  match f.body with
  | some c =>
    match strip P c with
    | some sc => some ⟨f.ntmps, f.results.toList, sc⟩
    | none => none
  | none => none

def H0 : AHeap := { next := 0, own := .nil, old := fun _ => none }
def φ0 : Phi := fun b => if b % 2 = 1 then some (b / 2, 0) else none

theorem rel0 (w : World) : Rel φ0 H0 w := by
  refine ⟨fun b x c K g p => ?_, fun b b' x x' c K K' g g' p p' => ?_, fun k hk => ?_, fun b => ?_, fun k hk => ?_⟩
  · have : H0.get b = none := by unfold AHeap.get H0; split <;> simp [Tr.get]
    rw [this] at g; cases g
  · have : H0.get b = none := by unfold AHeap.get H0; split <;> simp [Tr.get]
    rw [this] at g; cases g
  · unfold φ0; rw [if_neg (by omega)]
  · unfold φ0; rw [if_pos (by omega)]; simp; omega
  · unfold AHeap.get H0; split <;> simp [Tr.get]

/-- A call that looks at nothing of the world: by the abstract run. -/
theorem blind_in {Y : Setup} (ok : Y.OK) {n : Nat} {f : FuncId} {args : List Value} {args' : Array Value} {v : Value} (h : ((acalls Y n).fn [] f args H0).map Prod.fst = some v) (ha : VRels φ0 args args'.toList) (w : World) :
    CallsIn (FW none) 0 Y.P f args' w fun e w' => (∃ φ v', e = .returned v' ∧ VRel φ v v') ∧ RowKit.Below w.heap.size w w' := by
  simp only [Option.map_eq_some_iff] at h
  obtain ⟨⟨v2, H'⟩, h1, rfl⟩ := h
  have := (callsOK ok n).fn [] f args H0 v2 H' h1 φ0 w args' (rel0 w) ⟨fun b L hb => (by cases hb), fun b L b' L' c K K' hb => (by cases hb)⟩ ha
  refine CallsIn.mono this fun e w' ⟨φ', v', h2, h3, h4, h5⟩ => ⟨⟨φ', v', h2, h3⟩, h5.os, h5.tape, h5.output, h5.size, fun k hk => (h5.frame k hk fun b x K g p => ?_).1⟩
  have : H0.get b = none := by unfold AHeap.get H0; split <;> simp [Tr.get]
  rw [this] at g; cases g
theorem run_blind {Y : Setup} (ok : Y.OK) {n : Nat} {f : FuncId} {args : List Value} {args' : Array Value} {v : Value} (h : ((acalls Y n).fn [] f args H0).map Prod.fst = some v) (ha : VRels φ0 args args'.toList) (w : World) :
    Calls Y.P f args' w fun e w' => (∃ φ v', e = .returned v' ∧ VRel φ v v') ∧ RowKit.Below w.heap.size w w' :=
  callsIn_wide.1 (show CallsIn Fence.wide 0 Y.P f args' w _ from blind_in ok h ha w)

/-- The world beyond is no matter. -/
theorem Rel.below {φ : Phi} {H : AHeap} {w w' : World} (r : Rel φ H w) (hb : RowKit.Below w.heap.size w w') : Rel φ H w' ∧ Ext φ H w φ H w' := by
  refine ⟨⟨fun b x c K g p => ?_, r.inj, r.fresh, r.old, r.absent⟩, ⟨fun _ _ h => h, Nat.le_refl _, fun b h h' => absurd h h', fun c hc h => ⟨hb.block c hc, h⟩, fun _ _ h h' => ⟨h, h'⟩, fun b h h' => absurd h h', (fun b c K h h' => by rw [h] at h'; cases h'), hb.size, hb.os, hb.tape, hb.output⟩⟩
  obtain ⟨cs, e, fz, h1, h2⟩ := (r.blk b x c K g p).out
  exact ⟨cs, e, fz, by rw [hb.block c (Array.getElem?_eq_some_iff.1 h1).1]; exact h1, h2⟩

/-- A call without arguments that gives a bool and leaves nothing. -/
def blindPrim (b : Bool) : List Value → AHeap → Option (Value × AHeap)
  | [], H => some (.bool b, H)
  | _, _ => none
theorem blindPrim_ok {Y : Setup} (ok : Y.OK) {n : Nat} {f : FuncId} {b : Bool} (h : ((acalls Y n).fn [] f [] H0).map Prod.fst = some (.bool b)) :
    ∀ args H v H', blindPrim b args H = some (v, H') → ∀ φ w (args' : Array Value), Rel φ H w → VRels φ args args'.toList → CallsIn (FW none) 0 Y.P f args' w (After φ H w v H') := by
  intro args H v H' hp φ w args' r ra
  cases args with
  | cons a l => cases hp
  | nil =>
    cases hp
    have ha : VRels φ0 [] args'.toList := by
      generalize args'.toList = l at ra
      cases ra; exact .nil
    refine CallsIn.mono (blind_in ok h ha w) fun e w' ⟨⟨φ', v', h1, h2⟩, h3⟩ => ?_
    cases h2
    obtain ⟨r1, r2⟩ := r.below h3
    exact ⟨φ, _, h1, .bool b, r1, r2⟩

theorem oneCell_ok {w : World} {r : Reach} {base : Nat} {t : TypeId} {v : Value} (h : Cell.okWide P w r base t v) : v.oneCell' = true := by
  cases v with
  | agg cs => unfold Cell.okWide Cell.ok at h; split at h <;> first | (cases ‹Value.agg _ = _›) | skip
              all_goals (try (split at h <;> first | (cases h; done) | simp_all))
  | tuple cs => unfold Cell.okWide Cell.ok at h; split at h <;> first | (cases ‹Value.tuple _ = _›) | skip
                all_goals (try (split at h <;> first | (cases h; done) | simp_all))
  | _ => rfl

/-- A struct of which nothing is looked at. -/
theorem any_struct {w : World} {r : Reach} {base : Nat} {t : TypeId} {v : Value} {fs : Array Field} {n : Nat} (hu : P.underlying t = some (.struct fs)) (hn : P.cellsOf t = n) (h : Value.okWide P w r base t v) (φ : Phi) :
    VRel φ (.agg (Array.replicate n (.chan none))) v := by
  unfold Value.okWide at h
  rw [hu] at h
  obtain ⟨cs, rfl, h1, ts, h2, h3, h4⟩ := h
  refine .agg (by simp [h1, hn]) fun i hi hi' => ?_
  simp only [Array.getElem_replicate]
  obtain ⟨u, _, h5⟩ := h4 i cs[i] (by simp)
  exact .any (oneCell_ok h5)
end
end Go.Big
