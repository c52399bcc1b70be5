/-
  The operations that touch no memory, clear, and conversions.
-/
import Derived.Test.YtjkbcgeoglnbgaaGreatBigG
set_option linter.unusedVariables false
namespace Go.Big
section
variable {P : Program}

theorem sim_clear {φ : Phi} {H H' : AHeap} {w : World} (r : Rel φ H w) {ts : Array TypeId} {ty : TypeId} {x x' v : Value} (h : clearOp P ts x H = some (v, H')) (hx : VRel φ x x') :
    Sims P φ H w (Builtin.clear_ ts ty #[x']) v H' := by
  unfold clearOp at h
  split at h
  · rename_i d l c hu
    cases hx
    cases h
    obtain ⟨t, ht, hu⟩ := Option.bind_eq_some_iff.1 hu
    refine Sims.pure r (v' := .tuple #[]) ?_ (flatC_rel (by decide) _)
    simp [Builtin.clear_, ht, run_underlying hu]
  · rename_i e b o n c hu
    obtain ⟨t, ht, hu⟩ := Option.bind_eq_some_iff.1 hu
    obtain ⟨c', K, o', cap', hb, rfl, _, ho, _, _⟩ := knownCap_le (e := 0) r hx
    split at h
    · rename_i h0
      cases h; subst h0
      refine Sims.pure r (v' := .tuple #[]) ?_ (flatC_rel (by decide) _)
      simp [Builtin.clear_, ht, run_underlying hu]
    · rename_i h0
      split at h
      · rename_i z hz
        obtain ⟨i, zv, hi, hzv, hzs, rfl⟩ := zeroOf_spec hz
        simp only [Option.map_eq_some_iff, Prod.mk.injEq] at h
        obtain ⟨H2, hs, rfl, rfl⟩ := h
        have hoo : o' = o := by
          rcases ho with h1 | ⟨h1, h2⟩
          · exact h1
          · exact absurd h1 h0
        subst hoo
        have hzc : (Builtin.zeroCells zv.cells n).toList = repl n zv.cells.toList := by
          apply List.ext_getElem?
          intro i
          rw [repl_get, Array.getElem?_toList]
          unfold Builtin.zeroCells
          by_cases he : 0 < zv.cells.size
          · rw [range_map_get _ _ _ he]; simp
          · have : zv.cells.size = 0 := by omega
            simp [this]
        have hrel : VRels φ (repl n zv.cells.toList) (repl n zv.cells.toList) := by
          refine VRels.of_get rfl fun q v hq => ⟨v, hq, ?_⟩
          rw [repl_get] at hq
          split at hq
          · obtain ⟨v', g1, g2⟩ := (zeroOf_flat hz φ).get _ _ hq
            rw [hq] at g1; cases g1; exact g2
          · cases hq
        obtain ⟨w', k1, k2, k3⟩ := sim_storeCells (P := P) r hs hb hrel
        refine ⟨φ, .tuple #[], w', ?_, flatC_rel (by decide) _, k2, k3⟩
        rw [← hzc] at k1
        cases n with
        | zero => exact absurd rfl h0
        | succ n => simp [Builtin.clear_, ht, run_underlying hu, run_zeroValue' hi hzv, k1]
      · cases h
  · cases h

theorem sim_len {φ : Phi} {w : World} {ts : Array TypeId} {ty : TypeId} {x x' v : Value} (h : lenOp P ts x = some v) (hx : VRel φ x x') :
    (Builtin.len_ ts ty #[x']).run P w = .ok v w ∧ VRel φ v v := by
  unfold lenOp at h
  split at h
  · rename_i hu
    cases hx; cases h
    obtain ⟨t, ht, hu⟩ := Option.bind_eq_some_iff.1 hu
    exact ⟨by simp [Builtin.len_, ht, run_underlying hu, goInt], .int _ _⟩
  · rename_i hu
    cases h
    obtain ⟨t, ht, hu⟩ := Option.bind_eq_some_iff.1 hu
    cases hx <;> exact ⟨by simp [Builtin.len_, ht, run_underlying hu, goInt], .int _ _⟩
  · rename_i hu
    cases h
    obtain ⟨t, ht, hu⟩ := Option.bind_eq_some_iff.1 hu
    exact ⟨by simp [Builtin.len_, ht, run_underlying hu, goInt], .int _ _⟩
  · cases h

theorem sim_cap {φ : Phi} {w : World} {ts : Array TypeId} {ty : TypeId} {x x' v : Value} (h : capOp P ts x = some v) (hx : VRel φ x x') :
    (Builtin.cap_ ts ty #[x']).run P w = .ok v w ∧ VRel φ v v := by
  unfold capOp at h
  split at h
  · rename_i hu
    split at h
    · cases h
    · rename_i hc
      cases h
      obtain ⟨t, ht, hu⟩ := Option.bind_eq_some_iff.1 hu
      cases hx with
      | nilSlice => exact ⟨by simp [Builtin.cap_, ht, run_underlying hu, goInt], .int _ _⟩
      | slice => exact ⟨by simp [Builtin.cap_, ht, run_underlying hu, goInt], .int _ _⟩
      | sliceG => exact absurd rfl hc
  · cases h

theorem sim_max2 {φ : Phi} {w : World} {x x' y y' v : Value} (h : max2 x y = some v) (hx : VRel φ x x') (hy : VRel φ y y') : (Builtin.max2 x' y').run P w = .ok v w ∧ VRel φ v v := by
  unfold max2 at h
  split at h
  · cases hx; cases hy; cases h; exact ⟨rfl, .int _ _⟩
  · cases h
theorem sim_min2 {φ : Phi} {w : World} {x x' y y' v : Value} (h : min2 x y = some v) (hx : VRel φ x x') (hy : VRel φ y y') : (Builtin.min2 x' y').run P w = .ok v w ∧ VRel φ v v := by
  unfold min2 at h
  split at h
  · cases hx; cases hy; cases h; exact ⟨rfl, .int _ _⟩
  · cases h
theorem sim_foldM {φ : Phi} {w : World} {f : Value → Value → Option Value} {g : Value → Value → Sem Value} (hfg : ∀ x x' y y' v, f x y = some v → VRel φ x x' → VRel φ y y' → (g x' y').run P w = .ok v w ∧ VRel φ v v) :
    ∀ {l l' : List Value} {x x' v : Value}, VRels φ l l' → VRel φ x x' → l.foldlM f x = some v → ∃ v', (l'.foldlM g x').run P w = .ok v' w ∧ VRel φ v v'
  | [], _, x, x', v, .nil, hx, h => by cases h; exact ⟨x', rfl, hx⟩
  | a :: l, _, x, x', v, .cons ha hl, hx, h => by
    simp only [List.foldlM_cons, Option.bind_eq_bind, Option.bind_eq_some_iff] at h
    obtain ⟨y, h1, h2⟩ := h
    obtain ⟨g1, g2⟩ := hfg _ _ _ _ _ h1 hx ha
    obtain ⟨v', k1, k2⟩ := sim_foldM hfg hl g2 h2
    exact ⟨v', by simp [List.foldlM_cons, g1, k1], k2⟩

theorem bytes_run : ∀ {l : List Value} {bs : List UInt8} {w : World} (s : ByteArray), bytesOf l = some bs → (forIn l s (fun (c : Value) (s : ByteArray) => (match c with | .int .u8 n => pure (ForInStep.yield (s.push (UInt8.ofNat n.toNat))) | _ => do stuck (α := PUnit) "bytesToString: byte expected"; pure (ForInStep.yield s) : Sem (ForInStep ByteArray)))).run P w = .ok ⟨(s.data.toList ++ bs).toArray⟩ w
  | [], bs, w, s, h => by
    simp only [bytesOf, Option.some.injEq] at h; subst h; simp
  | v :: l, bs, w, s, h => by
    cases v with
    | int k n =>
      cases k <;> first
        | (simp [bytesOf] at h; done)
        | (simp only [bytesOf, Option.map_eq_some_iff] at h
           obtain ⟨r, hr, rfl⟩ := h
           simp only [List.forIn_cons, Sem.run_bind, Sem.run_pure, Result.andThen_ok]
           rw [bytes_run _ hr]
           simp)
    | _ => simp [bytesOf] at h

theorem bytes_same {φ : Phi} : ∀ {l l' : List Value} {bs : List UInt8}, bytesOf l = some bs → VRels φ l l' → l' = l
  | [], _, _, _, .nil => rfl
  | v :: l, _, bs, h, .cons hv hl => by
    cases v with
    | int k n =>
      cases hv
      cases k <;> first
        | (simp [bytesOf] at h; done)
        | (simp only [bytesOf, Option.map_eq_some_iff] at h
           obtain ⟨r, hr, rfl⟩ := h
           rw [bytes_same hr hl])
    | _ => simp [bytesOf] at h

theorem heap_freeze (w : World) (row : Array Value) (e : TypeId) (n : Nat) :
    ((w.alloc (.cells row e)).freeze ⟨w.heap.size, n, none⟩ 1) = w.alloc (.cells row e (n, n + 1)) := by
  unfold World.freeze
  rw [if_neg (by decide)]
  simp only [World.alloc]
  congr 1
  apply Array.ext_getElem?
  intro i
  rw [Array.getElem?_modify]
  by_cases h : w.heap.size = i
  · subst h; simp
  · rw [if_neg h, Array.getElem?_push, Array.getElem?_push, if_neg (Ne.symm h), if_neg (Ne.symm h)]

theorem sim_conv {φ : Phi} {H H' : AHeap} {w : World} (r : Rel φ H w) {s d : TypeId} {x x' v : Value} (h : convOp P s d x H = some (v, H')) (hx : VRel φ x x') :
    Sims P φ H w (convert s d x') v H' := by
  unfold convOp at h
  split at h
  · rename_i ds k k' n hs hd
    cases hx; cases h
    exact Sims.pure r (v' := .int k (k.wrap n)) (by simp [convert, run_underlying hs, run_underlying hd, Conv.intToInt]) (.int _ _)
  · rename_i ds str hs hd
    cases hx; cases h
    refine Sims.pure r (v' := .string str) ?_ (.string _)
    simp [convert, run_underlying hs, run_underlying hd]
  · rename_i e l c hs hd
    cases hx
    split at h
    · rename_i he
      cases h
      refine Sims.pure r (v' := .string .empty) ?_ (.string _)
      simp [convert, run_underlying hs, run_underlying hd, run_underlying he, Conv.bytesToString]
    · cases h
  · rename_i e b o n c hs hd
    split at h
    · rename_i he
      simp only [Option.map_eq_some_iff, Option.bind_eq_some_iff, Prod.mk.injEq] at h
      obtain ⟨bs, ⟨l, hl, hbs⟩, rfl, rfl⟩ := h
      obtain ⟨c', K, o', cap', hb, rfl, _, ho, _, _⟩ := knownCap_le (e := 0) r hx
      obtain ⟨l', e1, e2, e3⟩ := r.loadN hl hb
      have hll : l' = l := bytes_same hbs e2
      have hload : (loadCells ⟨c', o', none⟩ n).run P w = .ok l'.toArray w := by
        rcases ho with rfl | ⟨rfl, _⟩
        · exact run_loadCells' e1 e3
        · have : l' = [] := List.length_eq_zero_iff.1 e1
          subst this; simp [loadCells, loadCellsFrom]
      refine Sims.pure r (v' := .string ⟨bs.toArray⟩) ?_ (.string _)
      subst hll
      have hb2 := bytes_run (P := P) (w := w) .empty hbs
      simp only [convert, Sem.run_bind, run_underlying hs, run_underlying hd, run_underlying he, Result.andThen_ok, Conv.bytesToString, hload]
      rw [← Array.forIn_toList]
      refine (congrArg (fun r => Result.andThen r fun a w' => Sem.run P (pure (Value.string a)) w') hb2).trans ?_
      simp
    · cases h
  · rename_i e str hs hd
    cases hx
    split at h
    · rename_i he
      cases h
      have hcap : str.size ≤ (Question.appendCap str.size 0 e).cut (w.tape w.drawn (.appendCap str.size 0 e)) := by simp [Question.cut]
      generalize hq : (Question.appendCap str.size 0 e).cut (w.tape w.drawn (.appendCap str.size 0 e)) = cap at hcap
      have hsz : ((str.data.map fun b : UInt8 => Value.int .u8 b.toNat) ++ Array.replicate (cap - str.size) (Value.int .u8 0)).size = cap := by
        have : str.data.size = str.size := rfl
        simp [this]; omega
      have hrun : (convert s d (.string str)).run P w = .ok (.slice (some ⟨w.heap.size, 0, none⟩) str.size cap)
          (w.drew.alloc (.cells ((str.data.map fun b : UInt8 => Value.int .u8 b.toNat) ++ Array.replicate (cap - str.size) (Value.int .u8 0)) e (cap, cap + 1))) := by
        have hf := heap_freeze w.drew ((str.data.map fun b : UInt8 => Value.int .u8 b.toNat) ++ Array.replicate (cap - str.size) (Value.int .u8 0)) e cap
        have hs1 : w.drew.heap.size = w.heap.size := rfl
        rw [hs1] at hf
        have hshape : (w.drew.alloc (.cells ((str.data.map fun b : UInt8 => Value.int .u8 b.toNat) ++ Array.replicate (cap - str.size) (Value.int .u8 0)) e)).shape? w.heap.size = some (e, cap) := by
          simp only [World.shape?, World.alloc]
          rw [← hs1, Array.getElem?_push_size]
          exact congrArg (fun n => some (e, n)) hsz
        simp only [convert, Sem.run_bind, run_underlying hs, run_underlying hd, run_underlying he, Result.andThen_ok, Conv.stringToBytes, run_choose, Question.forced, Bool.false_eq_true, if_false, hq]
        simp only [newRow, Sem.run_bind, run_newObj, Result.andThen_ok, Sem.run_pure, markStringish, run_shape]
        have e1 : ({ heap := w.heap.push (.cells ((str.data.map fun b : UInt8 => Value.int .u8 b.toNat) ++ Array.replicate (cap - str.size) (Value.int .u8 0)) e), tape := w.tape, drawn := w.drawn + 1, os := w.os, output := w.output } : World) = w.drew.alloc (.cells ((str.data.map fun b : UInt8 => Value.int .u8 b.toNat) ++ Array.replicate (cap - str.size) (Value.int .u8 0)) e) := rfl
        rw [e1, hshape]
        simp only [run_freeze, Result.andThen_ok]
        rw [hf]
      obtain ⟨p1, p2⟩ := r.new (x := { cells := str.data.toList.map fun b => .int .u8 b.toNat, grow := some 1 }) (c := w.heap.size) (K := cap) (e := e) (fz := (cap, cap + 1))
        (w' := w.drew.alloc (.cells ((str.data.map fun b : UInt8 => Value.int .u8 b.toNat) ++ Array.replicate (cap - str.size) (Value.int .u8 0)) e (cap, cap + 1))) rfl rfl rfl rfl rfl rfl
        (by rw [hsz]; simpa using hcap) (fun h => by cases h) (fun e' he' => by cases he'; rw [hsz, Nat.mul_one]) (fun i v hi => by
          have hlt : i < str.data.size := by
            have := (List.getElem?_eq_some_iff.1 hi).1
            simpa using this
          refine ⟨v, ?_, ?_⟩
          · rw [Array.getElem?_append_left (by simpa using hlt)]
            simpa using hi
          · obtain ⟨b, _, rfl⟩ := List.mem_map.1 (List.mem_of_getElem? hi)
            exact .int _ _) (fun o ho => by rw [hsz] at ho; simp only; omega)
      exact ⟨_, _, _, hrun, .sliceG 0 0 _ cap (Phi.put_same _ _ _ _) hcap (.inl rfl) (fun _ => rfl), p1, p2⟩
    · cases h
  · cases h
end
end Go.Big
