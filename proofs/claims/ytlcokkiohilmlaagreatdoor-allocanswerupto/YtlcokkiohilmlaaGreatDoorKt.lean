import Derived.Test.YtlcokkiohilmlaaGreatDoorHex
import Derived.Deep.MidRow
import Derived.Laws.Rows
/- Laws of no program: whole arrays and structs (of whatever cells) out of and into blocks; blocks known whole. -/
namespace Go.Proofs.YtlcokkiohilmlaaGreatDoor
open Go.RowKit

/-! ### a block of cells, known whole -/
def Blk (w : World) (b : Nat) (cs : Array Value) (T : TypeId) : Prop := w.heap[b]? = some (.cells cs T (0, 0))
theorem Blk.lt {w b cs T} (h : Blk w b cs T) : b < w.heap.size := by
  rcases Nat.lt_or_ge b w.heap.size with h' | h'
  · exact h'
  · simp [Blk, Array.getElem?_eq_none h'] at h
theorem Blk.cell {w b cs T} (h : Blk w b cs T) (i : Nat) : w.cell? ⟨b, i, none⟩ = cs[i]? := Lib.cell_of_heap h i
theorem Blk.frozen {w b cs T} (h : Blk w b cs T) (i : Nat) : w.frozen? ⟨b, i, none⟩ = false := Lib.frozen_of_heap h i
theorem Blk.set {w b cs T} (h : Blk w b cs T) (i : Nat) (v : Value) : Blk (w.setCell ⟨b, i, none⟩ v) b (cs.setIfInBounds i v) T := by
  unfold Blk at h ⊢
  simp [World.setCell, Array.getElem?_modify, h]
theorem Blk.set_ne {w b cs T} (h : Blk w b cs T) (b' i : Nat) (v : Value) (hne : b ≠ b') : Blk (w.setCell ⟨b', i, none⟩ v) b cs T := by
  unfold Blk at h ⊢
  simp only [World.setCell, Array.getElem?_modify]
  rw [if_neg (by simpa using (Ne.symm hne))]; exact h
theorem Blk.new (w : World) (cs : Array Value) (T : TypeId) : Blk (w.alloc (.cells cs T)) w.heap.size cs T := heap_alloc_new w _
theorem Blk.new' {w : World} {b : Nat} (hb : b = w.heap.size) (cs : Array Value) (T : TypeId) : Blk (w.alloc (.cells cs T)) b cs T := by subst hb; exact Blk.new w cs T
theorem Blk.alloc {w b cs T} (h : Blk w b cs T) (o : Obj) : Blk (w.alloc o) b cs T := (Lib.alloc_old w o b h.lt).trans h
theorem Blk.drew {w b cs T} (h : Blk w b cs T) : Blk w.drew b cs T := h
theorem Blk.below {w w' : World} {b cs T B} (h : Blk w b cs T) (hb : Below B w w') (hlt : b < B) : Blk w' b cs T := by
  unfold Blk at h ⊢
  rw [← h]; exact (hb.block b hlt)
theorem Blk.grown {w w' : World} {b cs T row} (h : Blk w b cs T) (hg : w.grownBy w' row) (hne : row ≠ some b) : Blk w' b cs T := by
  unfold Blk at h ⊢
  rw [hg.block b (Blk.lt h) (fun e => hne e.symm)]; exact h
theorem Blk.range {w b cs T} (h : Blk w b cs T) (o n : Nat) : w.rangeAt b o (cs.extract o (o + n)).toList := World.rangeAt_of_block h o n
theorem Blk.all {w b cs T} (h : Blk w b cs T) : w.rangeAt b 0 cs.toList := by
  have := h.range 0 cs.size
  simpa using this
theorem Blk.there {w b cs T} (h : Blk w b cs T) (o n : Nat) (hn : o + n ≤ cs.size) : w.there b o n := fun j hj => by
  refine ⟨?_, h.frozen _⟩
  rw [h.cell, Array.getElem?_eq_getElem (by omega)]; rfl

theorem setCells_heap_ne (b : Nat) : ∀ (vs : List Value) (o : Nat) (w : World) (k : Nat), k ≠ b → (w.setCells b o vs).heap[k]? = w.heap[k]?
  | [], _, _, _, _ => rfl
  | v :: r, o, w, k, h => by
    rw [World.setCells, setCells_heap_ne b r (o + 1) _ k h]
    exact Below.heap_setCell _ _ _ _ h
theorem setCells_size (b : Nat) : ∀ (vs : List Value) (o : Nat) (w : World), (w.setCells b o vs).heap.size = w.heap.size
  | [], _, _ => rfl
  | v :: r, o, w => by rw [World.setCells, setCells_size b r (o + 1)]; simp [World.setCell]
theorem Blk.sets_ne {w b cs T} (h : Blk w b cs T) (b' o : Nat) (vs : List Value) (hne : b ≠ b') : Blk (w.setCells b' o vs) b cs T :=
  (setCells_heap_ne b' vs o w b hne).trans h
/-- a whole array stored over a block of its size -/
theorem Blk.sets_all {w : World} {b : Nat} {cs cs' : Array Value} {T : TypeId} (h : Blk w b cs T) (hs : cs.size = cs'.size) : Blk (w.setCells b 0 cs'.toList) b cs' T := by
  have key : ∀ (vs : List Value) (o : Nat) (w : World) (c : Array Value), Blk w b c T → o + vs.length ≤ c.size →
      ∃ c', Blk (w.setCells b o vs) b c' T ∧ c'.size = c.size ∧ (∀ i, i < o ∨ o + vs.length ≤ i → c'[i]? = c[i]?) ∧ ∀ i, i < vs.length → c'[o + i]? = vs[i]? := by
    intro vs
    induction vs with
    | nil => intro o w c hb _; exact ⟨c, hb, rfl, fun _ _ => rfl, fun i hi => absurd hi (by simp)⟩
    | cons v r ih =>
      intro o w c hb hl
      simp only [List.length_cons] at hl
      obtain ⟨c', h1, h2, h3, h4⟩ := ih (o + 1) _ _ (hb.set o v) (by simp; omega)
      refine ⟨c', h1, by simpa using h2, ?_, ?_⟩
      · intro i hi
        simp only [List.length_cons] at hi
        rw [h3 i (by omega), Array.getElem?_setIfInBounds_ne (by omega)]
      · intro i hi
        cases i with
        | zero =>
          rw [h3 (o + 0) (by omega)]
          simp only [Nat.add_zero]
          rw [Array.getElem?_setIfInBounds_self_of_lt (by omega)]
          rfl
        | succ i =>
          have := h4 i (by simpa using hi)
          rw [show o + (i + 1) = o + 1 + i from by omega, this]
          rfl
  obtain ⟨c', h1, h2, _, h4⟩ := key cs'.toList 0 w cs h (by simp [hs])
  have e : c' = cs' := by
    apply Array.ext_getElem?
    intro i
    by_cases hi : i < cs'.size
    · have := h4 i (by simpa using hi)
      simpa using this
    · rw [Array.getElem?_eq_none (by omega), Array.getElem?_eq_none (by omega)]
  rw [e] at h1
  exact h1
theorem Below.setCells {B : Nat} {a w : World} (h : Below B a w) {b : Nat} (hb : B ≤ b) (o : Nat) (vs : List Value) : Below B a (w.setCells b o vs) := by
  have key : ∀ (vs : List Value) (o : Nat) (w : World), Below B a w → Below B a (w.setCells b o vs) := by
    intro vs
    induction vs with
    | nil => intro o w h; exact h
    | cons v r ih => intro o w h; rw [World.setCells]; exact ih _ _ (h.setCell (p := ⟨b, o, none⟩) hb v)
  exact key vs o w h

/-- a whole array stored into a block just made: the world, named -/
theorem stored_new {w1 w2 : World} {T : TypeId} {z cs : Array Value} (h : (w1.alloc (.cells z T)).setCells w1.heap.size 0 cs.toList = w2) (hs : z.size = cs.size) :
    Blk w2 w1.heap.size cs T ∧ w2.heap.size = w1.heap.size + 1 ∧ (∀ B w0, Below B w0 w1 → B ≤ w1.heap.size → Below B w0 w2) ∧ ∀ b cs' T', Blk w1 b cs' T' → Blk w2 b cs' T' := by
  subst h
  refine ⟨(Blk.new w1 z T).sets_all hs, by rw [setCells_size]; simp, fun B w0 hb hB => Below.setCells (hb.alloc hB _) hB 0 _, fun b cs' T' hb => (hb.alloc _).sets_ne _ _ _ (Nat.ne_of_lt hb.lt)⟩

/-! ### loads and stores of whole arrays and structs -/
section
variable {P : Program}
/-- 'a[l:]' of an array of n one-cell elements -/
theorem run_sliceAt_from {t e : TypeId} {n : Nat} (hu : P.underlying t = some (.array n e)) (he : (P.info? e).map (·.size) = some 1) (hln : P.arrayLen t = n) (hel : P.elem t = e) (a : Addr) (l : Int) (h0 : 0 ≤ l) (hl : l ≤ n) :
    ∃ X, (∀ w, (Instr.sliceAt t (.pointer (some a)) (some (.int .i64 l)) none none).run P w = .ok (.slice (some X) (n - l.toNat) (n - l.toNat)) w) ∧ (l < n → X = a.add l.toNat) := by
  refine ⟨if n = l.toNat then a else a.add (l.toNat * 1), fun w => ?_, fun h => by rw [if_neg (by omega), Nat.mul_one]⟩
  have h := run_sliceAt_array_l (P := P) w t a (by rw [hln, hel]; exact hu) .i64 l h0 (by rw [hln]; exact hl)
  rw [h, hel, hln]
  cases hq : P.info? e with
  | none => simp [hq] at he
  | some i =>
    have hs : i.size = 1 := by simpa [hq] using he
    simp [sizeOf, typeInfo, hq, hs, slicedAt]
/-- 'a[:]' of an array of n one-cell elements -/
theorem run_sliceAt_all {t e : TypeId} {n : Nat} (hu : P.underlying t = some (.array n e)) (he : (P.info? e).map (·.size) = some 1) (hln : P.arrayLen t = n) (hel : P.elem t = e) (a : Addr) :
    ∃ v, (∀ w, (Instr.sliceAt t (.pointer (some a)) none none none).run P w = .ok v w) ∧ (0 < n → v = .slice (some (a.add 0)) n n) := by
  refine ⟨.slice (some (if n = 0 then a else a.add (0 * 1))) n n, fun w => ?_, fun h => by rw [if_neg (by omega), Nat.mul_one]⟩
  have h := run_sliceAt_array_all (P := P) w t a (by rw [hln, hel]; exact hu)
  rw [h, hel, hln]
  cases hq : P.info? e with
  | none => simp [hq] at he
  | some i =>
    have hs : i.size = 1 := by simpa [hq] using he
    simp [sizeOf, typeInfo, hq, hs, slicedAt]
theorem wpList_load_arr {ops : Array Oper} {rest : List Oper} {op : Oper} {a : Act} {w : World} {Q : Exit → Act → World → Prop} (hgd : op.guard = none) (ty : TypeId) (x : Operand) (ho : op.op = .load ty x)
    (b o : Nat) (hx : a.eval x = .pointer (some ⟨b, o, none⟩)) (cs : Array Value) (d : TypeDesc) (hc : w.rangeAt b o cs.toList)
    (hu : P.underlying ty = some d) (hd : d.isRow = true) (hi : (P.info? ty).map (·.size) = some cs.size)
    (h : wpList P ops Q rest (a.put op.dst (.agg cs)) w) : wpList P ops Q (op :: rest) a w :=
  wpList_load_mid hgd ty x ho b o hx cs.toList d hc hu hd (by simpa using hi) (by simpa using h)
theorem results_cell_arr {fn : Func} {p : Tmp} {ty : TypeId} (h : fn.results = #[.cell p ty]) (tmps : Array Value) (w : World) (b o : Nat) (cs : Array Value) (d : TypeDesc)
    (hp : tmps.getD p undef = .pointer (some ⟨b, o, none⟩)) (hc : w.rangeAt b o cs.toList)
    (hu : P.underlying ty = some d) (hd : d.isRow = true) (hi : (P.info? ty).map (·.size) = some cs.size) :
    (results fn tmps).run P w = .ok (.agg cs) w := by
  have hp' : tmps[p]?.getD undef = .pointer (some ⟨b, o, none⟩) := by simpa using hp
  have hl := run_loadVar_mid (P := P) w b o ty cs.toList d hc hu hd (by simpa using hi)
  simp only [Array.toArray_toList] at hl
  simp [results, h, hp', asAddr, hl]
end
end Go.Proofs.YtlcokkiohilmlaaGreatDoor
