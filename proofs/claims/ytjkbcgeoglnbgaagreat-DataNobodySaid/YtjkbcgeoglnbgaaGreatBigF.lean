/-
  The rest of the operations that touch memory: copy, clear, make, slices of literals, conversions.
-/
import Derived.Test.YtjkbcgeoglnbgaaGreatBigE
import Derived.IntWalk
set_option linter.unusedVariables false
namespace Go.Big
section
variable {P : Program}

theorem sim_copy {φ : Phi} {H H' : AHeap} {w : World} (r : Rel φ H w) {ts : Array TypeId} {ty : TypeId} {d x d' x' v : Value} (h : copyOp P ts d x H = some (v, H')) (hd : VRel φ d d') (hx : VRel φ x x') :
    Sims P φ H w (Builtin.copy_ ts ty #[d', x']) v H' := by
  unfold copyOp at h
  split at h
  · cases h
  rename_i st hst
  split at h
  · rename_i et hu
    split at h
    · rename_i i hi
      split at h
      · cases h
      rename_i n xs hsrc
      obtain ⟨hn, hxl, hxs⟩ := src_spec (P := P) r hsrc hx
      split at h
      · cases hd
        cases h
        obtain ⟨new, hnew, hnr⟩ := hxs 0 (Nat.zero_le _)
        refine Sims.pure r (v' := .int .i64 0) ?_ (.int _ _)
        simp [Builtin.copy_, hst, run_underlying hu, hn, run_sizeOf' hi, hnew, goInt]
      · rename_i b o len cap
        obtain ⟨c, K, o', cap', hb, rfl, hk1, ho, hex, hgr⟩ := knownCap_le (e := i.size) r hd
        obtain ⟨new, hnew, hnr⟩ := hxs (Nat.min n len) (Nat.min_le_left _ _)
        split at h
        · rename_i h0
          cases h
          refine Sims.pure r (v' := .int .i64 0) ?_ (.int _ _)
          have hnil : new = #[] := by
            have := hnr.length
            rw [h0] at this
            exact Array.eq_empty_of_size_eq_zero (by simpa using this.symm)
          subst hnil
          rw [h0] at hnew
          have h0' : min n len = 0 := h0
          simp [Builtin.copy_, hst, run_underlying hu, hn, run_sizeOf' hi, goInt, h0', hnew, storeCells]
        · rename_i h0
          split at h
          · rename_i H2 hs2
            cases h
            have hoo : o' = o := by
              rcases ho with h1 | ⟨h1, h2⟩
              · exact h1
              · subst h1; exact absurd (Nat.min_zero n) h0
            subst hoo
            obtain ⟨w', k1, k2, k3⟩ := sim_storeCells (P := P) r hs2 hb hnr
            refine ⟨φ, .int .i64 (Nat.min n len), w', ?_, .int _ _, k2, k3⟩
            simp [Builtin.copy_, hst, run_underlying hu, hn, run_sizeOf' hi, hnew, goInt, k1]
          · cases h
      · cases h
    · cases h
  · cases h

theorem repl_get (n : Nat) (z : List Value) (i : Nat) : (repl n z)[i]? = if i < n * z.length then z[i % z.length]? else none := by
  unfold repl
  induction n generalizing i with
  | zero => simp
  | succ n ih =>
    rw [List.replicate_succ, List.flatten_cons]
    by_cases h : i < z.length
    · rw [List.getElem?_append_left h, Nat.mod_eq_of_lt h, if_pos (by rw [Nat.succ_mul]; omega)]
    · rw [List.getElem?_append_right (by omega), ih]
      have : i % z.length = (i - z.length) % z.length := by
        rw [Nat.mod_eq_sub_mod (by omega)]
      rw [this]
      by_cases h2 : i - z.length < n * z.length
      · rw [if_pos h2, if_pos (by rw [Nat.succ_mul]; omega)]
      · rw [if_neg h2, if_neg (by rw [Nat.succ_mul]; omega)]
theorem repl_length (n : Nat) (z : List Value) : (repl n z).length = n * z.length := by simp [repl]

theorem range_map_get (m : Nat) (z : Array Value) (i : Nat) (hz : 0 < z.size) : ((Array.range m).map fun j => z[j % z.size]!)[i]? = if i < m then z.toList[i % z.toList.length]? else none := by
  by_cases h : i < m
  · have : i % z.size < z.size := Nat.mod_lt _ hz
    simp [h, this]
  · simp [h]

theorem row_of_zero {n : Nat} {z : Value} {e : Nat} (hz : z.cells.size = e) : ((Array.range (n * e)).map fun j => (if n * e = 0 then #[] else z.cells)[j % (if n * e = 0 then #[] else z.cells).size]!).toList = repl n z.cells.toList := by
  by_cases h : n * e = 0
  · have h1 : (repl n z.cells.toList).length = 0 := by rw [repl_length]; simpa [hz] using h
    rw [List.length_eq_zero_iff.1 h1]; simp [h]
  · have he : 0 < z.cells.size := by rw [hz]; exact Nat.pos_of_ne_zero fun h0 => h (by rw [h0]; simp)
    simp only [if_neg h]
    apply List.ext_getElem?
    intro i
    rw [repl_get, Array.getElem?_toList, range_map_get _ _ _ he]
    simp [hz]

theorem sim_makeSlice {φ : Phi} {H H' : AHeap} {w : World} (r : Rel φ H w) {t : TypeId} {l c l' c' v : Value} (h : makeSliceOp P t l c H = some (v, H')) (hl : VRel φ l l') (hc : VRel φ c c') :
    Sims P φ H w (Instr.makeSlice t l' c') v H' := by
  unfold makeSliceOp at h
  split at h
  · rename_i et k1 li k2 ci hu
    cases hl; cases hc
    split at h
    · rename_i i z hi hz
      obtain ⟨i', zv, hi', hzv, hzs, rfl⟩ := zeroOf_spec hz
      rw [hi] at hi'; cases hi'
      split at h
      · rename_i hb
        obtain ⟨h1, h2, h3, h4⟩ := hb
        cases h
        obtain ⟨ln, rfl⟩ := Int.eq_ofNat_of_zero_le h1
        obtain ⟨cn, rfl⟩ := Int.eq_ofNat_of_zero_le (Int.le_trans h1 h2)
        simp only [Int.toNat_natCast] at h4 ⊢
        have hw : ∀ q : Nat, (q : Int) < 4611686018427387904 → IntKind.i64.wrap q = q := fun q hq => IntWalk.i64_in _ (by omega)
        have hbig : ¬ ((i.bytes : Int) * (cn : Int) > 2 ^ 48) := by
          have h5 := Int.ofNat_le.2 h4
          rw [Int.natCast_mul] at h5; omega
        have hrow := row_of_zero (n := cn) (z := zv) hzs
        have hrun : (Instr.makeSlice t (.int k1 (ln : Int)) (.int k2 (cn : Int))).run P w = .ok (.slice (some ⟨w.heap.size, 0, none⟩) ln cn)
            (w.alloc (.cells ((Array.range (cn * i.size)).map fun j => (if cn * i.size = 0 then #[] else zv.cells)[j % (if cn * i.size = 0 then #[] else zv.cells).size]!) et)) := by
          simp only [Instr.makeSlice, Sem.run_bind, run_underlying hu, Result.andThen_ok, asInt, asIntOf, Sem.run_pure, run_typeInfo' hi, hw ln (by omega), hw cn h3]
          rw [if_neg (by simp only [decide_eq_true_eq, Bool.or_eq_true]; omega)]
          simp only [Sem.run_bind, run_askRoom, Result.andThen_ok, run_sizeOf' hi, Int.toNat_natCast]
          by_cases h0 : cn * i.size = 0
          · simp [h0, newRow]
          · simp [h0, newRow, run_zeroValue' hi hzv]
        have hlen : ∀ arr : Array Value, arr.toList = repl cn zv.cells.toList → arr.size = (repl cn zv.cells.toList).length := fun arr ha => by rw [← ha]; simp
        obtain ⟨p1, p2⟩ := r.new (x := { cells := repl cn zv.cells.toList }) (c := w.heap.size) (K := 0) (cs := _) (e := et) (fz := (0, 0)) (w' := w.alloc (.cells ((Array.range (cn * i.size)).map fun j => (if cn * i.size = 0 then #[] else zv.cells)[j % (if cn * i.size = 0 then #[] else zv.cells).size]!) et)) rfl rfl rfl rfl rfl rfl
          (by rw [hlen _ hrow]; exact Nat.le_refl _) (fun _ => hlen _ hrow) (fun e he => by cases he) (fun q v hq => by
            rw [← hrow] at hq
            refine ⟨v, by rwa [Array.getElem?_toList] at hq, ?_⟩
            rw [hrow, repl_get] at hq
            split at hq
            · obtain ⟨v', g1, g2⟩ := (zeroOf_flat hz φ).get _ _ hq
              rw [hq] at g1; cases g1; exact g2
            · cases hq) (fun o _ => by omega)
        exact ⟨_, _, _, hrun, .slice 0 ln cn (Phi.put_same _ _ _ _) (by unfold capG; omega), p1, p2⟩
      · cases h
    · cases h
  · cases h
end
end Go.Big
