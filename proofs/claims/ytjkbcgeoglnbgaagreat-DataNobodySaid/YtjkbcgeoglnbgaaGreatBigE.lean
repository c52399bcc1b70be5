/-
  append, copy, clear, make, and the bytes of a string.
-/
import Derived.Test.YtjkbcgeoglnbgaaGreatBigD
set_option linter.unusedVariables false
namespace Go.Big
section
variable {P : Program}

theorem bytes_extract (s : ByteArray) (m : Nat) : ((s.extract 0 m).data.map fun b => Value.int .u8 b.toNat).toList = (s.data.toList.map fun b => Value.int .u8 b.toNat).take m := by
  have : (s.extract 0 m).data.toList = s.data.toList.take m := by
    simp
  rw [Array.toList_map, this, List.map_take]

theorem src_spec {φ : Phi} {H : AHeap} {w : World} (r : Rel φ H w) {e n : Nat} {x x' : Value} {xs : List Value} (h : srcOf H e x = some (n, xs)) (hx : VRel φ x x') :
    (Builtin.lenOf x').run P w = .ok n w ∧ xs.length = n * e ∧ ∀ m, m ≤ n → ∃ arr : Array Value, (Builtin.firstCells e m x').run P w = .ok arr w ∧ VRels φ (xs.take (m * e)) arr.toList := by
  unfold srcOf at h
  split at h
  · rename_i n0 c0
    cases hx
    split at h
    · rename_i h0
      cases h; subst h0
      exact ⟨rfl, by simp, fun m hm => ⟨#[], by simp [Builtin.firstCells], by simpa using VRels.nil⟩⟩
    · cases h
  · rename_i b o n0 c0
    simp only [Option.map_eq_some_iff, Prod.mk.injEq] at h
    obtain ⟨l, hl, rfl, rfl⟩ := h
    have hlen : l.length = n0 * e := by
      unfold AHeap.loadN at hl
      split at hl
      · split at hl
        · cases hl; simp; omega
        · cases hl
      · cases hl
    have key : ∀ (c K o' : Nat), φ b = some (c, K) → (o' = o ∨ n0 = 0) → ∀ m, m ≤ n0 → ∃ arr : Array Value, (loadCells ⟨c, o', none⟩ (m * e)).run P w = .ok arr w ∧ VRels φ (l.take (m * e)) arr.toList := by
      intro c K o' hb ho m hm
      obtain ⟨l', e1, e2, e3⟩ := r.loadN hl hb
      rcases ho with rfl | rfl
      · refine ⟨(l'.take (m * e)).toArray, run_loadCells' (by have := Nat.mul_le_mul_right e hm; simp; omega) (fun j v hj => e3 j v ?_), by simpa using e2.take _⟩
        have : j < m * e := by
          have := (List.getElem?_eq_some_iff.1 hj).1
          simp at this; omega
        rwa [List.getElem?_take_of_lt this] at hj
      · obtain rfl : m = 0 := by omega
        exact ⟨#[], by simp [loadCells, loadCellsFrom], by simpa using VRels.nil⟩
    cases hx with
    | slice _ _ _ hb hc => exact ⟨rfl, hlen, fun m hm => by simpa [Builtin.firstCells] using key _ _ _ hb (.inl rfl) m hm⟩
    | sliceG _ o' _ cap hb hl ho hk => exact ⟨rfl, hlen, fun m hm => by simpa [Builtin.firstCells] using key _ _ _ hb (ho.imp id (·.1)) m hm⟩
  · rename_i s
    cases hx
    split at h
    · rename_i h1
      cases h; subst h1
      refine ⟨rfl, by simp, fun m hm => ⟨((s.extract 0 m).data.map fun b => .int .u8 b.toNat), by simp [Builtin.firstCells], ?_⟩⟩
      rw [bytes_extract, Nat.mul_one]
      refine VRels.of_get rfl fun i v hi => ⟨v, hi, ?_⟩
      have hm := List.mem_of_getElem? hi
      obtain ⟨b, _, rfl⟩ := List.mem_map.1 (List.mem_of_mem_take hm)
      exact .int _ _
    · cases h
  · cases h

theorem growBy_le (need : Nat) : ∀ (rounds c : Nat), c < need → Builtin.growBy need rounds c ≤ 2 * need + 1024
  | 0, c, h => by simp [Builtin.growBy]; omega
  | n + 1, c, h => by
    simp only [Builtin.growBy]
    rw [if_neg (by omega)]
    by_cases h2 : c + (c + 768) / 4 < need
    · exact growBy_le need n _ h2
    · cases n with
      | zero => simp [Builtin.growBy]; omega
      | succ n => simp only [Builtin.growBy]; rw [if_pos (by omega)]; omega
theorem nextcap_le {need cap : Nat} (h : cap < need) : Builtin.nextslicecap need cap ≤ 2 * need + 1024 := by
  unfold Builtin.nextslicecap
  split
  · omega
  · split
    · omega
    · exact growBy_le _ _ _ h

theorem zeroCells_size (z : Array Value) (n : Nat) : (Builtin.zeroCells z n).size = n * z.size := by simp [Builtin.zeroCells]

/-- The second argument of an append is no length (no 'append(s, make(..)...)'). -/
def NoInt (P : Program) (ts : Array TypeId) : Prop := ts[1]? = none ∨ ∃ xt d, ts[1]? = some xt ∧ P.underlying xt = some d ∧ ∀ k, d ≠ .int k

/-- The new array of an append that grows. -/
theorem run_append_grow {w : World} {ts : Array TypeId} {ty st et : TypeId} {i : TypeInfo} {z x' : Value} {base : Option Addr} {len cap n : Nat} {old new : Array Value}
    (hst : ts[0]? = some st) (hu : P.underlying st = some (.slice et)) (hi : P.info? et = some i) (hz : i.zero = some z) (hx : NoInt P ts)
    (hn : (Builtin.lenOf x').run P w = .ok n w) (hgt : cap < len + n) (hbig : len + n < 4611686018427387904) (hb : (2 * (len + n) + 1024) * i.bytes ≤ 281474976710656)
    (hold : (Builtin.firstCells i.size len (.slice base len cap)).run P w.drew = .ok old w.drew) (hnew : (Builtin.firstCells i.size n x').run P w.drew = .ok new w.drew) :
    ∃ newCap, len + n ≤ newCap ∧ (Builtin.append_ ts ty #[.slice base len cap, x']).run P w =
      .ok (.slice (some ⟨w.heap.size, 0, none⟩) (len + n) newCap) (w.drew.alloc (.cells (old ++ (new ++ Builtin.zeroCells z.cells (newCap - (len + n)))) et)) := by
  have hq : ¬ (len + n ≤ cap) := by omega
  have hnc := nextcap_le (need := len + n) (cap := cap) hgt
  have hmul : ¬ (Builtin.nextslicecap (len + n) cap * i.bytes > 2 ^ 48) := by
    have := Nat.le_trans (Nat.mul_le_mul_right _ hnc) hb
    omega
  have hi64 : ¬ (9223372036854775807 < (len : Int) + (n : Int)) := by omega
  refine ⟨(Question.appendCap (len + n) cap et).cut (w.tape w.drawn (.appendCap (len + n) cap et)), by simp [Question.cut], ?_⟩
  rcases hx with h0 | ⟨xt, d, h1, h2, h3⟩
  · simp [Builtin.append_, hst, run_underlying hu, run_sizeOf' hi, h0, hn, hq, run_typeInfo' hi, hi64, hmul, run_zeroValue' hi hz, hold, hnew, Question.forced, newRow]
  · simp [Builtin.append_, hst, run_underlying hu, run_sizeOf' hi, h1, run_underlying h2, hn, hq, run_typeInfo' hi, hi64, hmul, run_zeroValue' hi hz, hold, hnew, Question.forced, newRow]

theorem run_append_room {w w' : World} {ts : Array TypeId} {ty st et : TypeId} {i : TypeInfo} {x' : Value} {a : Addr} {len cap n : Nat} {new : Array Value}
    (hst : ts[0]? = some st) (hu : P.underlying st = some (.slice et)) (hi : P.info? et = some i) (hx : NoInt P ts)
    (hn : (Builtin.lenOf x').run P w = .ok n w) (hle : len + n ≤ cap) (hnew : (Builtin.firstCells i.size n x').run P w = .ok new w)
    (hs : (storeCells (a.add (len * i.size)) new.toList).run P w = .ok () w') :
    (Builtin.append_ ts ty #[.slice (some a) len cap, x']).run P w = .ok (.slice (some a) (len + n) cap) w' := by
  rcases hx with h0 | ⟨xt, d, h1, h2, h3⟩
  · simp [Builtin.append_, hst, run_underlying hu, run_sizeOf' hi, h0, hn, hle, hnew, hs]
  · simp [Builtin.append_, hst, run_underlying hu, run_sizeOf' hi, h1, run_underlying h2, hn, hle, hnew, hs]

theorem run_append_nil {w : World} {ts : Array TypeId} {ty st et : TypeId} {i : TypeInfo} {x' : Value} {new : Array Value}
    (hst : ts[0]? = some st) (hu : P.underlying st = some (.slice et)) (hi : P.info? et = some i) (hx : NoInt P ts)
    (hn : (Builtin.lenOf x').run P w = .ok 0 w) (hnew : (Builtin.firstCells i.size 0 x').run P w = .ok new w) :
    (Builtin.append_ ts ty #[.slice none 0 0, x']).run P w = .ok (.slice none 0 0) w := by
  rcases hx with h0 | ⟨xt, d, h1, h2, h3⟩
  · simp [Builtin.append_, hst, run_underlying hu, run_sizeOf' hi, h0, hn, hnew]
  · simp [Builtin.append_, hst, run_underlying hu, run_sizeOf' hi, h1, run_underlying h2, hn, hnew]

/-- The world behind an append that has grown stands for the heap with one block more. -/
theorem grown_new {φ : Phi} {H : AHeap} {w : World} (r : Rel φ H w) {xs : List Value} {row : Array Value} {z : Array Value} {e et need newCap : Nat} (hrow : VRels φ xs row.toList) (hlen : xs.length = need * e) (hze : z.size = e) (hcap : need ≤ newCap) :
    Rel (φ.put H.fresh w.heap.size newCap) (H.alloc { cells := xs, grow := some e }) (w.drew.alloc (.cells (row ++ Builtin.zeroCells z (newCap - need)) et)) ∧
    Ext φ H w (φ.put H.fresh w.heap.size newCap) (H.alloc { cells := xs, grow := some e }) (w.drew.alloc (.cells (row ++ Builtin.zeroCells z (newCap - need)) et)) := by
  have hl := hrow.length
  simp only [Array.length_toList] at hl
  have hsz : (row ++ Builtin.zeroCells z (newCap - need)).size = newCap * e := by
    rw [Array.size_append, zeroCells_size, ← hl, hlen, hze, ← Nat.add_mul]; congr 1; omega
  refine r.new (x := { cells := xs, grow := some e }) (K := newCap) (cs := row ++ Builtin.zeroCells z (newCap - need)) (e := et) (fz := (0, 0)) rfl rfl rfl rfl rfl rfl ?_ (fun h => by cases h) (fun e' he => ?_) (fun i v hi => ?_) (fun o _ => by omega)
  · show xs.length ≤ _; rw [Array.size_append]; omega
  · cases he; exact hsz
  · obtain ⟨v', h1, h2⟩ := hrow.get i v hi
    have hlt : i < row.size := by
      have := (List.getElem?_eq_some_iff.1 h1).1
      simpa using this
    exact ⟨v', by rw [Array.getElem?_append_left hlt]; simpa using h1, h2⟩

theorem knownCap_le {φ : Phi} {H : AHeap} {w : World} (r : Rel φ H w) {b o e len cap : Nat} {v : Value} (hv : VRel φ (.slice (some ⟨b, o, none⟩) len cap) v) :
    ∃ c K o' cap', φ b = some (c, K) ∧ v = .slice (some ⟨c, o', none⟩) len cap' ∧ (len ≤ knownCap H b o e len cap → len ≤ cap' ∧ knownCap H b o e len cap ≤ cap') ∧ (o' = o ∨ (len = 0 ∧ cap' = 0)) ∧ (cap ≠ capG → cap' = cap ∧ o' = o) ∧ (cap = capG → o = 0 → cap' = K ∧ o' = o) := by
  cases hv with
  | slice _ _ _ hb hc => exact ⟨_, _, _, _, hb, rfl, fun h => by unfold knownCap at h ⊢; rw [if_neg hc] at h ⊢; exact ⟨h, Nat.le_refl _⟩, .inl rfl, fun _ => ⟨rfl, rfl⟩, fun h => absurd h hc⟩
  | sliceG _ o' _ cap' hb hl ho hk =>
    refine ⟨_, _, _, _, hb, rfl, fun _ => ⟨hl, ?_⟩, ho.imp id fun h => ⟨h.1, h.2.1⟩, fun h => absurd rfl h, fun _ h => ⟨hk h, ?_⟩⟩
    · unfold knownCap
      rw [if_pos rfl]
      split
      · rename_i x hx
        split
        · rename_i hh
          obtain ⟨h1, h2, h3⟩ := hh
          obtain ⟨cs, e0, fz, g1, g2, g3, g4, g5, g6⟩ := (r.blk _ _ _ _ hx hb).out
          have hK := g4 e h2
          rw [hk h1]
          refine Nat.max_le.2 ⟨by rw [← hk h1]; exact hl, ?_⟩
          refine (Nat.div_le_iff_le_mul_add_pred (by omega)).2 ?_
          rw [hK, Nat.mul_comm] at g2
          omega
        · exact hl
      · exact hl
    · rcases ho with rfl | ⟨_, _, h0⟩
      · rfl
      · exact absurd h h0

theorem noIntB_spec {ts : Array TypeId} (h : noIntB P ts = true) : NoInt P ts := by
  unfold noIntB at h
  unfold NoInt
  split at h
  · rename_i h1; exact .inl h1
  · rename_i xt h1
    split at h
    · cases h
    · rename_i d hd h2; exact .inr ⟨xt, d, h1, h2, fun k hk => hd k (hk ▸ rfl)⟩
    · cases h

theorem sim_append {φ : Phi} {H H' : AHeap} {w : World} (r : Rel φ H w) {ts : Array TypeId} {ty : TypeId} {s x s' x' v : Value} (h : appendOp P ts s x H = some (v, H')) (hs : VRel φ s s') (hx : VRel φ x x') :
    Sims P φ H w (Builtin.append_ ts ty #[s', x']) v H' := by
  unfold appendOp at h
  split at h
  · cases h
  rename_i st hst
  split at h
  · rename_i et hu
    split at h
    · rename_i i z hi hz
      obtain ⟨i', zv, hi', hzv, hzs, rfl⟩ := zeroOf_spec hz
      rw [hi] at hi'; cases hi'
      split at h
      · rename_i hno
        have hno := noIntB_spec hno
        split at h
        · rename_i n xs hsrc
          obtain ⟨hn, hxl, hxs⟩ := src_spec (P := P) r hsrc hx
          obtain ⟨new, hnew, hnr⟩ := hxs n (Nat.le_refl _)
          have hxt : xs.take (n * i.size) = xs := List.take_of_length_le (by omega)
          rw [hxt] at hnr
          have rd : Rel φ H w.drew := r.draw _
          obtain ⟨newD, hnewD, hnrD⟩ := (src_spec (P := P) rd hsrc hx).2.2 n (Nat.le_refl _)
          rw [hxt] at hnrD
          unfold appendTo at h
          split at h
          · -- a nil slice
            cases hs
            split at h
            · rename_i h0
              cases h; subst h0
              exact Sims.pure r (run_append_nil hst hu hi hno hn hnew) (.nilSlice 0 0)
            · rename_i h0
              split at h
              · rename_i hroom
                cases h
                simp only [roomFor, decide_eq_true_eq] at hroom
                obtain ⟨nc, hnc, hrun⟩ := run_append_grow (P := P) (w := w) (ts := ts) (ty := ty) (base := none) (len := 0) (cap := 0) (n := n) (old := #[]) (new := newD) hst hu hi hzv hno hn (by omega) (by omega) (by simpa using hroom.1)
                  (by simp [Builtin.firstCells]) hnewD
                obtain ⟨p1, p2⟩ := grown_new (et := et) r (xs := xs) (row := newD) (z := zv.cells) (e := i.size) (need := 0 + n) (newCap := nc) hnrD (by rw [Nat.zero_add]; exact hxl) hzs hnc
                refine ⟨_, _, _, hrun, ?_, by simpa using p1, by simpa using p2⟩
                rw [Nat.zero_add]
                exact .sliceG 0 0 n nc (Phi.put_same _ _ _ _) (by omega) (.inl rfl) (fun _ => rfl)
              · cases h
          · rename_i b o len cap
            obtain ⟨c, K, o', cap', hb, rfl, hk1, ho, hex, hgr⟩ := knownCap_le (e := i.size) r hs
            split at h
            · rename_i h0
              split at h
              · rename_i hle
                cases h; subst h0
                obtain ⟨hle1, _⟩ := hk1 hle
                refine Sims.pure r (v' := .slice (some ⟨c, o', none⟩) (len + 0) cap') (run_append_room hst hu hi hno hn (by omega) hnew ?_) (by simpa using hs)
                have : new.toList = [] := by
                  have := hnr.length
                  simp at hxl
                  cases hl : new.toList with
                  | nil => rfl
                  | cons a l => rw [hl] at this; simp [hxl] at this
                rw [this]; rfl
              · cases h
            · rename_i h0
              split at h
              · rename_i hle
                split at h
                · rename_i H2 hst2
                  cases h
                  obtain ⟨hle1, hle2⟩ := hk1 (by omega)
                  have hoo : o' = o := by
                    rcases ho with h1 | ⟨h1, h2⟩
                    · exact h1
                    · omega
                  subst hoo
                  obtain ⟨w', k1, k2, k3⟩ := sim_storeCells (P := P) r hst2 hb hnr
                  refine ⟨φ, _, w', run_append_room hst hu hi hno hn (by omega) hnew (by rw [addr_add]; exact k1), ?_, k2, k3⟩
                  by_cases hcg : cap = capG
                  · subst hcg
                    exact .sliceG _ _ _ _ hb (by omega) (.inl rfl) (fun h => (hgr rfl h).1)
                  · obtain ⟨rfl, _⟩ := hex hcg
                    exact .slice _ _ _ hb hcg
                · cases h
              · rename_i hgt
                split at h
                · rename_i hroom
                  simp only [roomFor, decide_eq_true_eq] at hroom
                  split at h
                  · cases h
                  · rename_i old hold
                    obtain ⟨l', e1, e2, e3⟩ := r.loadN hold hb
                    split at h
                    · rename_i hcg
                      cases h
                      obtain ⟨rfl, rfl⟩ := hex hcg
                      have hk : knownCap H b o' i.size len cap' = cap' := by unfold knownCap; rw [if_neg hcg]
                      rw [hk] at hgt
                      obtain ⟨nc, hnc, hrun⟩ := run_append_grow (P := P) (w := w) (ts := ts) (ty := ty) (base := some ⟨c, o', none⟩) (len := len) (cap := cap') (n := n) (old := l'.toArray) (new := newD) hst hu hi hzv hno hn (by omega) hroom.2 hroom.1
                        (by simpa [Builtin.firstCells] using run_loadCells' (w := w.drew) e1 e3) hnewD
                      obtain ⟨p1, p2⟩ := grown_new (et := et) r (xs := old ++ xs) (row := l'.toArray ++ newD) (z := zv.cells) (e := i.size) (need := len + n) (newCap := nc) (by simpa using e2.append hnrD)
                        (by rw [List.length_append, e2.length, e1, hxl, Nat.add_mul]) hzs hnc
                      refine ⟨_, _, _, hrun, ?_, by simpa [Array.append_assoc] using p1, by simpa [Array.append_assoc] using p2⟩
                      exact .sliceG 0 0 _ nc (Phi.put_same _ _ _ _) hnc (.inl rfl) (fun _ => rfl)
                    · rename_i hcg
                      have hcg : cap = capG := Classical.byContradiction fun h => hcg h
                      subst hcg
                      split at h
                      · rename_i y hy
                        split at h
                        · rename_i hc
                          obtain ⟨rfl, hyro, hev, hyg, hyl, hone⟩ := hc
                          cases h
                          obtain ⟨rfl, rfl⟩ := hgr rfl rfl
                          obtain ⟨cs, e0, fz, g1, g2, g3, g4, g5, g6⟩ := (r.blk b y c cap' hy hb).out
                          have hK := g4 _ hyg
                          have hold' : ∀ j v, (old ++ xs)[j]? = some v → (j < len * i.size → y.cells[j]? = some v) := fun j v hj hlt => by
                            have : old = y.cells := by
                              unfold AHeap.loadN at hold
                              rw [hy] at hold
                              simp only [Nat.zero_add, hyl, Nat.le_refl, if_true, List.drop_zero] at hold
                              rw [← Option.some.inj hold, List.take_of_length_le (by omega)]
                            rw [List.getElem?_append_left (by rw [this]; omega), this] at hj
                            exact hj
                          have holdl : old.length = len * i.size := by rw [e2.length, e1]
                          by_cases hroomy : len + n ≤ cap'
                          · -- in place
                            have hsz : len * i.size + xs.length ≤ cs.size := by
                              rw [hK, hxl, ← Nat.add_mul]; exact Nat.mul_le_mul_right _ hroomy
                            obtain ⟨w', cs', k1, k2, k3, k4⟩ := run_store_blk (P := P) (o := len * i.size) (vs := new.toList) g1 (by rw [← hnr.length]; exact hsz) (g6 hyro) (hnr.oneCells hone)
                            have hszc : cs'.size = cs.size := by
                              have := congrArg List.length k3
                              rw [splice_length (by rw [← hnr.length]; simpa using hsz)] at this
                              simpa using this
                            obtain ⟨p1, p2⟩ := r.regrow (y := { cells := old ++ xs, grow := some i.size }) hy hb hev hyro rfl g1 k2 hszc (g6 hyro) rfl hK (by simp [holdl]; exact hsz) (fun j v hj => by
                              have e0 : cs'[j]? = (splice cs.toList (len * i.size) new.toList)[j]? := by rw [← k3]; simp
                              rw [splice_get (by rw [← hnr.length]; simpa using hsz)] at e0
                              rw [e0]
                              by_cases hlt : j < len * i.size
                              · rw [if_neg (by omega)]
                                simpa using g5 j v (hold' j v hj hlt)
                              · have hj2 : xs[j - len * i.size]? = some v := by
                                  simp only at hj
                                  rw [List.getElem?_append_right (by omega), holdl] at hj; exact hj
                                have hjl : j - len * i.size < xs.length := (List.getElem?_eq_some_iff.1 hj2).1
                                rw [if_pos (by rw [← hnr.length]; omega)]
                                exact hnr.get _ _ hj2) k4
                            refine ⟨_, _, w', run_append_room hst hu hi hno hn hroomy hnew (by rw [addr_add, Nat.zero_add]; exact k1), ?_, p1, p2⟩
                            exact .sliceG 0 0 _ _ (Phi.put_same _ _ _ _) hroomy (.inl rfl) (fun _ => rfl)
                          · -- moved
                            obtain ⟨nc, hnc, hrun⟩ := run_append_grow (P := P) (w := w) (ts := ts) (ty := ty) (base := some ⟨c, 0, none⟩) (len := len) (cap := cap') (n := n) (old := l'.toArray) (new := newD) hst hu hi hzv hno hn (by omega) hroom.2 hroom.1
                              (by simpa [Builtin.firstCells] using run_loadCells' (w := w.drew) e1 e3) hnewD
                            obtain ⟨r2, x2⟩ := r.drop hy hb hev
                            obtain ⟨p1, p2⟩ := grown_new (et := et) r2 (xs := old ++ xs) (row := l'.toArray ++ newD) (z := zv.cells) (e := i.size) (need := len + n) (newCap := nc) (by simpa using e2.append hnrD)
                              (by rw [List.length_append, holdl, hxl, Nat.add_mul]) hzs hnc
                            refine ⟨_, _, _, hrun, ?_, by simpa [Array.append_assoc] using p1, x2.trans (by simpa [Array.append_assoc] using p2)⟩
                            exact .sliceG 0 0 _ nc (Phi.put_same _ _ _ _) hnc (.inl rfl) (fun _ => rfl)
                        · cases h
                      · cases h
                · cases h
          · cases h
        · cases h
      · cases h
    · cases h
  · cases h

end
end Go.Big
