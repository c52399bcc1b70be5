/-
  DataNobody: a dataset that is nil, or that no call made, has nothing and takes nothing: for every argument; no condition.
-/
import Derived.Test.YtjkbcgeoglnbgaaGreatRows
import Derived.Test.YtjkbcgeoglnbgaaGreatBigV
import Derived.ProofKit
import Derived.Carry
import Derived.OpenShut
set_option linter.unusedVariables false
namespace Go.Proofs.YtjkbcgeoglnbgaaGreat
open Go.ChangeShapes Go.WideShapes Go.ChangeAt Go.RowKit Go.Big

theorem nob_own : ownKnob Tryz.prog.godebug = none := by kernel_rfl
theorem nob_laidOut : laidOutB Tryz.prog = true := by kernel_rfl

def nobX : XT := fun f => if f = 95 then some extMake else none
noncomputable def nobS : FuncId → Option SFun := fun f => match Tryz.prog.funcs[f]? with | some fn => stripFun Tryz.prog fn | none => none

theorem nob_ext : ExtOK Tryz.prog nobX := by
  intro f g hg
  unfold nobX at hg
  split at hg
  · rename_i hf
    subst hf
    cases hg
    exact ext_make (fn := Tryz.f95) (ps := #[3]) (t := 29) (e := 5) Tryz.func95 (by kernel_rfl) (by kernel_rfl) (by kernel_rfl) (by kernel_rfl) (by kernel_rfl)
  · cases hg

theorem nobS_ok (f : FuncId) (sf : SFun) (h : nobS f = some sf) : ∃ fn c, Tryz.prog.funcs[f]? = some fn ∧ fn.body = some c ∧ strip Tryz.prog c = some sf.code ∧ fn.ntmps = sf.ntmps ∧ fn.results.toList = sf.results := by
  unfold nobS at h
  split at h
  · rename_i fn hfn
    unfold stripFun at h
    split at h
    · rename_i c hc
      split at h
      · rename_i sc hsc
        cases h
        exact ⟨fn, c, hfn, hc, hsc, rfl, rfl⟩
      · cases h
    · cases h
  · cases h

set_option maxRecDepth 100000
/-- The example alone. -/
noncomputable def nobY : Setup := { P := Tryz.prog, X := nobX, S := nobS, prim := fun _ => none }
theorem nob_ok : nobY.OK where
  ext := nob_ext
  mixed := by kernel_rfl
  fn := nobS_ok
  prim f p h := by cases h
theorem nob_lives : ((acalls nobY 30).fn [] 12 [] H0).map Prod.fst = some (.bool true) := by kernel_rfl

/-- The law, the example taken as known. -/
noncomputable def nobZ : Setup := { P := Tryz.prog, X := nobX, S := nobS, prim := fun f => if f = 12 then some (blindPrim true) else none }
theorem nobZ_ok : nobZ.OK where
  ext := nob_ext
  mixed := nob_ok.mixed
  fn := nobS_ok
  prim f p h := by
    simp only [nobZ] at h
    split at h
    · rename_i hf
      subst hf
      cases h
      exact blindPrim_ok nob_ok nob_lives
    · cases h
theorem nob_run : ((acalls nobZ 30).fn [] 5 [.agg (Array.replicate 16 (.chan none))] H0).map Prod.fst = some (.bool true) := by kernel_rfl

theorem nob_walk (w : World) (v0 : Value) (base : Nat) (hv : Value.okWide Tryz.prog w .any base 56 v0) : Calls Tryz.prog 5 #[v0] w fun e w' => e = .returned (.bool true) ∧ Below w.heap.size w w' := by
  refine (run_blind nobZ_ok nob_run (args' := #[v0]) (.cons (any_struct Tryz.underlying56 (by kernel_rfl) hv φ0) .nil) w).mono fun e w' ⟨⟨φ, v', h1, h2⟩, h3⟩ => ⟨?_, h3⟩
  cases h2
  exact h1

theorem nob_contract (H : Type) (enc : TypeId × Value → H) (W : World) (base : Nat) (args : Array Value) (ds gs : List (DataW H)) (before : List MemPlace)
    (hval : ∀ (j : Nat) t v, Tryz.f5.params[j]? = some t → args[j]? = some v → Value.okWide Tryz.prog W .any base t v)
    (hW : DataW.Whole enc Tryz.prog Tryz.f5.params.toList Rows.dataNobodySpec.vars false W args.toList ds gs before) :
    Calls Tryz.prog 5 args W fun e W' => ∃ v, e = .returned v ∧ Rows.dataNobodySpec.post enc Tryz.prog Tryz.f5 false true false false W args v W' := by
  have hW' := hW
  obtain ⟨p, q, hA0, hV, rfl, hfz, hnd⟩ := hW
  have hA : DataW.TrodAll enc Tryz.prog W 0 (fun _ => true) true Tryz.f5.params.toList args.toList ds p := hA0
  rw [Tryz.params5] at hA hval
  obtain ⟨v0, vs0, d0, ds0, p0, q0, hargs, rfl, rfl, h0, r0⟩ := trodAll_cons hA
  obtain ⟨rfl, rfl, rfl⟩ := trodAll_nil r0
  obtain rfl : args = #[v0] := by cases args; simp_all
  obtain ⟨rfl, rfl⟩ := trodVars_none hV
  refine (nob_walk W v0 base (hval 0 56 v0 rfl rfl)).mono fun e W' ⟨he, hb⟩ => ?_
  subst he
  refine ⟨_, rfl, [d0], [], _, [], p0 ++ [], [], hW', ?_, ?_, ?_, hb.frame _, fun h => by cases h⟩
  · exact (trodAll_cons_mk (shut_bool Tryz.underlying4 _) trodAll_mk0)
  · refine trodAll_cons_mk (Below.trod nob_laidOut (by kernel_rfl) (by decide +kernel) h0 hb ?_) trodAll_mk0
    intro x hx
    exact hW'.lt x (by simp [hx])
  · rfl
end Go.Proofs.YtjkbcgeoglnbgaaGreat
