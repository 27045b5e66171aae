import Derived.Test.YtlcokkiohilmlaaGreatDoorOq
import Derived.Great.BuildSlice
/- Accounts just made: each in cells of a row, its code and its places in rows of their own. -/
namespace Go.Proofs.YtlcokkiohilmlaaGreatDoor
open Go.RowKit

/-- '[]T{x}' of one struct -/
theorem wpList_build_one {P : Program} {ops : Array Oper} {rest : List Oper} {o : Oper} {a : Act} {w : World} {Q : Exit → Act → World → Prop} (hg : o.guard = none) (t e : TypeId) (x : Operand) (ho : o.op = .buildSlice t 1 #[(0, x)])
    (cs : Array Value) (hx : a.eval x = .agg cs) (ie : TypeInfo) (z : Value) (n : Nat) (hu : P.underlying t = some (.slice e)) (hie : P.info? e = some ie) (hz : ie.zero = some z) (hn : ie.size = n) (hcs : cs.size = n) (hpos : 0 < n) (hsm : n ≤ 2 ^ 24)
    (h : wpList P ops Q rest (a.put o.dst (.slice (some ⟨w.heap.size, 0, none⟩) 1 1)) (w.alloc (.cells cs e))) : wpList P ops Q (o :: rest) a w := by
  refine wpList_buildSlice hg t e 1 #[(0, x)] ho cs ie z hu hie hz (by rw [hn]; omega) (by rw [hn]; omega) ?_ h
  have hf := Great.fill_whole (s := ie.size) (by rw [hn]; exact hpos) [.agg cs] ((Array.range (1 * ie.size)).map (z.cells[· % z.cells.size]!)) (by simp [Value.cells, hcs, hn]) (by simp)
  simp only [List.map_toArray, List.map_cons, List.map_nil, hx]
  simpa [Value.cells] using hf
def slotsV (l : List (Nat × Nat)) : List Value := l.flatMap fun d => (wcells d.1 ++ wcells d.2).toList
theorem slotsV_len (l : List (Nat × Nat)) : (slotsV l).length = l.length * 8 := by
  induction l with
  | nil => rfl
  | cons d l ih => simp only [slotsV, List.flatMap_cons, List.length_append, List.length_cons] at ih ⊢; rw [ih]; simp [wcells]; omega
theorem slotsV_get (l : List (Nat × Nat)) : ∀ i (h : i < l.length) j, j < 8 → (slotsV l)[i * 8 + j]? = (wcells l[i].1 ++ wcells l[i].2)[j]? := by
  induction l with
  | nil => intro i h; exact absurd h (by simp)
  | cons d l ih =>
    intro i h j hj
    have e : (wcells d.1 ++ wcells d.2).toList.length = 8 := rfl
    cases i with
    | zero =>
      rw [Nat.zero_mul, Nat.zero_add]
      show ((wcells d.1 ++ wcells d.2).toList ++ slotsV l)[j]? = (wcells d.1 ++ wcells d.2)[j]?
      rw [List.getElem?_append_left (by omega), Array.getElem?_toList]
    | succ i =>
      have hi : i < l.length := by simpa using h
      show ((wcells d.1 ++ wcells d.2).toList ++ slotsV l)[(i + 1) * 8 + j]? = (wcells l[i].1 ++ wcells l[i].2)[j]?
      rw [List.getElem?_append_right (by omega), e, ← ih i hi j hj]
      congr 1; omega
theorem slotsV_one (l : List (Nat × Nat)) : ∀ u ∈ slotsV l, u.oneCell' = true := by
  intro u hu
  simp only [slotsV, List.mem_flatMap] at hu
  obtain ⟨d, -, hd⟩ := hu
  exact Array.all_eq_true_iff_forall_mem.1 (slot_one d) u (by simpa using hd)

theorem ownsRow_keep {w w' : World} {B : Nat} {e : TypeId} {sz : Nat} {v : Value} {n : Nat} {xs : List Value} (h : w.ownsRow B e sz v n xs) (hk : ∀ g c fz, v.ownBlock = some g → w.heap[g]? = some (.cells c e fz) → w'.heap[g]? = w.heap[g]?) : w'.ownsRow B e sz v n xs := by
  obtain ⟨h1, h2⟩ := h
  refine ⟨h1, ?_⟩
  rcases h2 with h2 | ⟨g, cap, cur, hv, hg, hh, r⟩
  · exact .inl h2
  · exact .inr ⟨g, cap, cur, hv, hg, (hk g _ _ (by rw [hv]; rfl) hh).trans hh, r⟩
theorem ownsRow_base {w : World} {B B' : Nat} {e : TypeId} {sz : Nat} {v : Value} {n : Nat} {xs : List Value} (h : w.ownsRow B e sz v n xs) (hB : B' ≤ B) : w.ownsRow B' e sz v n xs := by
  obtain ⟨h1, h2⟩ := h
  refine ⟨h1, ?_⟩
  rcases h2 with h2 | ⟨g, cap, cur, hv, hg, r⟩
  · exact .inl h2
  · exact .inr ⟨g, cap, cur, hv, Nat.le_trans hB hg, r⟩
theorem ownsRow_low {w w' : World} {B : Nat} {e : TypeId} {sz : Nat} {v : Value} {n : Nat} {xs : List Value} (h : w.ownsRow B e sz v n xs) (hb : Below w.heap.size w w') : w'.ownsRow B e sz v n xs :=
  ownsRow_keep h fun g _ _ _ hh => hb.block g (Array.getElem?_eq_some_iff.1 hh).1
/-- a row of another type grows -/
theorem ownsRow_grown {w w' : World} {B B' : Nat} {e e' : TypeId} {sz sz' : Nat} {v v' : Value} {n n' : Nat} {xs xs' : List Value} (h : w.ownsRow B e sz v n xs) (h' : w.ownsRow B' e' sz' v' n' xs') (hne : e ≠ e') (hg : w.grownBy w' v'.ownBlock) : w'.ownsRow B e sz v n xs :=
  ownsRow_keep h fun g c fz _ hh => hg.block g (Array.getElem?_eq_some_iff.1 hh).1 fun hs => by
    rcases h'.2 with ⟨hv, -⟩ | ⟨g', _, _, hv, -, hh', -⟩
    · rw [hv] at hs; cases hs
    · rw [hv] at hs
      obtain rfl : g = g' := by simpa [Value.ownBlock] using hs
      rw [hh] at hh'
      injection hh' with hh'
      injection hh' with _ h2 _
      exact hne h2
/-- a store into a block of another type -/
theorem ownsRow_set {w : World} {B : Nat} {e e' : TypeId} {sz : Nat} {v : Value} {n : Nat} {xs : List Value} (h : w.ownsRow B e sz v n xs) {b i : Nat} {cs : Array Value} (hb : Blk w b cs e') (hne : e ≠ e') (x : Value) : (w.setCell ⟨b, i, none⟩ x).ownsRow B e sz v n xs :=
  ownsRow_keep h fun g c fz _ hh => by
    refine Below.heap_setCell _ _ _ _ fun he => ?_
    subst he
    unfold Blk at hb
    rw [hh] at hb
    injection hb with hb
    injection hb with _ h2 _
    exact hne h2

theorem ownsRow_one {w : World} {B : Nat} {e : TypeId} {sz : Nat} {v : Value} {n : Nat} {xs : List Value} (h : w.ownsRow B e sz v n xs) : v.oneCell' = true := by
  rcases h.2 with ⟨rfl, -⟩ | ⟨g, cap, cur, rfl, -⟩ <;> rfl
theorem ownsRow_slice {w : World} {B : Nat} {e : TypeId} {sz : Nat} {v : Value} {n : Nat} {xs : List Value} (h : w.ownsRow B e sz v n xs) : ∃ a c, v = .slice a n c := by
  rcases h.2 with ⟨rfl, rfl⟩ | ⟨g, cap, cur, rfl, -⟩
  · exact ⟨_, _, rfl⟩
  · exact ⟨_, _, rfl⟩
theorem ownsRow_slice3 {w : World} {B : Nat} {e : TypeId} {sz : Nat} {v : Value} {n : Nat} {xs : List Value} (h : w.ownsRow B e sz v n xs) : ∃ a m c, v = .slice a m c := by
  obtain ⟨a, c, h⟩ := ownsRow_slice h
  exact ⟨a, n, c, h⟩
theorem ownsRow_cast {w : World} {B : Nat} {e : TypeId} {sz : Nat} {v : Value} {n n' : Nat} {xs xs' : List Value} (hn : n = n') (hx : xs = xs') (h : w.ownsRow B e sz v n xs) : w.ownsRow B e sz v n' xs' := by
  subst hn; subst hx; exact h
theorem ownsRow_ge {w : World} {B : Nat} {e : TypeId} {sz : Nat} {v : Value} {n : Nat} {xs : List Value} (h : w.ownsRow B e sz v n xs) (q : Nat) (hq : v.ownBlock = some q) : B ≤ q := by
  rcases h.2 with ⟨rfl, -⟩ | ⟨g, cap, cur, rfl, hg, -⟩
  · cases hq
  · have : g = q := by simpa [Value.ownBlock] using hq
    omega
theorem news_new (w : World) (cs : Array Value) (T : TypeId) : ∀ j u, cs.toList[j]? = some u → (w.alloc (.cells cs T)).cell? ((⟨w.heap.size, 0, none⟩ : Addr).add j) = some u := by
  intro j u hu
  rw [Go.WideShapes.add_plain, Nat.zero_add, (Blk.new w cs T).cell, ← Array.getElem?_toList]; exact hu
def AccO (w : World) (cs : Array Value) (d : AccD) : Prop :=
  cs.all (·.oneCell') = true ∧ cs.size = 27 ∧ d.addr.length = 20 ∧ cs.extract 0 20 = bytesV d.addr ∧ cs[20]? = some (.int .u64 d.nonce) ∧ d.nonce < 2 ^ 64 ∧ cs.extract 21 25 = wcells d.bal ∧ d.bal < 2 ^ 256 ∧
    (∃ cv, cs[25]? = some cv ∧ w.ownsRow 0 5 1 cv d.code.length (Lib.byteCells d.code)) ∧ (∃ sv, cs[26]? = some sv ∧ w.ownsRow 0 77 8 sv d.store.length (slotsV d.store)) ∧ ∀ s ∈ d.store, s.1 < 2 ^ 256 ∧ s.2 < 2 ^ 256
theorem AccO.low {w w' : World} {cs : Array Value} {d : AccD} (h : AccO w cs d) (hb : Below w.heap.size w w') : AccO w' cs d := by
  obtain ⟨h0, h1, h2, h3, h4, h5, h6, h7, ⟨cv, h8, h9⟩, ⟨sv, h10, h11⟩, h12⟩ := h
  exact ⟨h0, h1, h2, h3, h4, h5, h6, h7, ⟨cv, h8, ownsRow_low h9 hb⟩, ⟨sv, h10, ownsRow_low h11 hb⟩, h12⟩
theorem AccO.grown {w w' : World} {cs : Array Value} {d : AccD} (h : AccO w cs d) {B n : Nat} {v : Value} {xs : List Value} (h' : w.ownsRow B 46 27 v n xs) (hg : w.grownBy w' v.ownBlock) : AccO w' cs d := by
  obtain ⟨h0, h1, h2, h3, h4, h5, h6, h7, ⟨cv, h8, h9⟩, ⟨sv, h10, h11⟩, h12⟩ := h
  exact ⟨h0, h1, h2, h3, h4, h5, h6, h7, ⟨cv, h8, ownsRow_grown h9 h' (by decide) hg⟩, ⟨sv, h10, ownsRow_grown h11 h' (by decide) hg⟩, h12⟩
theorem AccO.set {w : World} {cs : Array Value} {d : AccD} (h : AccO w cs d) {b i : Nat} {cs' : Array Value} {e' : TypeId} (hb : Blk w b cs' e') (n1 : 5 ≠ e') (n2 : 77 ≠ e') (x : Value) : AccO (w.setCell ⟨b, i, none⟩ x) cs d := by
  obtain ⟨h0, h1, h2, h3, h4, h5, h6, h7, ⟨cv, h8, h9⟩, ⟨sv, h10, h11⟩, h12⟩ := h
  exact ⟨h0, h1, h2, h3, h4, h5, h6, h7, ⟨cv, h8, ownsRow_set h9 hb n1 x⟩, ⟨sv, h10, ownsRow_set h11 hb n2 x⟩, h12⟩
theorem heap_lt {w : World} {g : Nat} {o : Obj} (h : w.heap[g]? = some o) : g < w.heap.size := (Array.getElem?_eq_some_iff.1 h).1
/-- rows of an owned row, read -/
theorem RdS_own {α : Type} {w : World} {B sz : Nat} {e : TypeId} {v : Value} {ds : List α} {xs : List Value} {Q : Array Value → α → Prop} (h : w.ownsRow B e sz v ds.length xs) (hpos : 0 < sz)
    (hq : ∀ i (h : i < ds.length), Q ((xs.drop (i * sz)).take sz).toArray ds[i]) : RdS w.heap.size w sz Q v ds := by
  obtain ⟨h1, h2⟩ := h
  rcases h2 with ⟨hv, h0⟩ | ⟨g, cap, cur, hv, hb, hg, hn, -, hs, htk⟩
  · exact ⟨none, 0, by rw [hv, h0], fun i hi => by omega⟩
  · refine ⟨some ⟨g, 0, none⟩, cap, hv, fun i hi => ⟨g, 0, _, rfl, heap_lt hg, ?_, ?_, hq i hi⟩⟩
    · intro j x hj
      simp only at hj
      have hj' : j < sz := by
        have := (List.getElem?_eq_some_iff.1 hj).1
        simp only [List.length_take] at this; omega
      rw [List.getElem?_take, if_pos hj', List.getElem?_drop] at hj
      rw [Nat.zero_add, Lib.cell_of_heap hg, ← hj, ← htk, List.getElem?_take]
      have : (i + 1) * sz ≤ ds.length * sz := Nat.mul_le_mul_right _ hi
      rw [Nat.add_mul, Nat.one_mul] at this
      rw [if_pos (by omega)]; simp
    · have : (i + 1) * sz ≤ ds.length * sz := Nat.mul_le_mul_right _ hi
      rw [Nat.add_mul, Nat.one_mul] at this
      simp; omega
theorem AccO.c {w : World} {cs : Array Value} {d : AccD} (h : AccO w cs d) : AccC w.heap.size w cs d := by
  obtain ⟨h0, h1, h2, h3, h4, h5, h6, h7, ⟨cv, h8, h9⟩, ⟨sv, h10, h11⟩, h12⟩ := h
  refine ⟨h0, h2, h3, h4, h5, h6, h7, ⟨cv, h8, RdU_own h9⟩, sv, h10, RdS_own h11 (by omega) fun i hi => ?_⟩
  refine ⟨?_, (h12 _ (List.getElem_mem hi)).1, (h12 _ (List.getElem_mem hi)).2⟩
  apply Array.ext_getElem?
  intro j
  rw [List.getElem?_toArray, List.getElem?_take]
  by_cases hj : j < 8
  · rw [if_pos hj, List.getElem?_drop]; exact slotsV_get _ i hi j hj
  · rw [if_neg hj, Array.getElem?_eq_none (by simp [wcells]; omega)]
theorem add_plain' (b off i : Nat) : (⟨b, off, none⟩ : Addr).add i = ⟨b, off + i, none⟩ := Go.WideShapes.add_plain b off i
/-- places of an account, as cells -/
theorem slots_news {B : Nat} {w W : World} {ad : Addr} {store : List (Nat × Nat)} (hsc : ∀ i (h : i < store.length), ∃ b off cs, some ad = some (⟨b, off, none⟩ : Addr) ∧ b < B ∧ w.rangeAt b (off + i * 8) (cs : Array Value).toList ∧ cs.size = 8 ∧ SlotC cs store[i]) (hb : Below B w W) (m : Nat) :
    ∀ j u, (slotsV (store.take m))[j]? = some u → W.cell? (ad.add j) = some u := by
  intro j u hu
  have hj : j < (slotsV (store.take m)).length := (List.getElem?_eq_some_iff.1 hu).1
  rw [slotsV_len, List.length_take] at hj
  have hi : j / 8 < store.length := by omega
  have hi' : j / 8 < (store.take m).length := by rw [List.length_take]; omega
  obtain ⟨b, off, cs, h1, h2, h3, h4, h5, -⟩ := hsc (j / 8) hi
  injection h1 with h1
  subst h1
  rw [add_plain']
  have e := slotsV_get (store.take m) (j / 8) hi' (j % 8) (by omega)
  rw [show j / 8 * 8 + j % 8 = j from by omega, hu] at e
  refine (hb.cell (p := ⟨b, off + j, none⟩) h2).trans ?_
  have := h3 (j % 8) u (by rw [h5, Array.getElem?_toList, e]; simp)
  rw [← this]
  congr 2
  omega
theorem row_keep {xs ys : List Value} {k j : Nat} (h : xs.length = k * 27) (hj : j < k) : ((xs ++ ys).drop (j * 27)).take 27 = (xs.drop (j * 27)).take 27 := by
  have : (j + 1) * 27 ≤ k * 27 := Nat.mul_le_mul_right _ hj
  rw [List.drop_append_of_le_length (by omega), List.take_append_of_le_length (by rw [List.length_drop]; omega)]
theorem row_last {xs ys : List Value} {k : Nat} (h : xs.length = k * 27) (hy : ys.length = 27) : ((xs ++ ys).drop (k * 27)).take 27 = ys := by
  rw [← h, List.drop_left, List.take_of_length_le (by omega)]
theorem set3 {cs : Array Value} (c s0 s : Value) (i : Nat) (hi : i < 25) : (((cs.setIfInBounds 25 c).setIfInBounds 26 s0).setIfInBounds 26 s)[i]? = cs[i]? := by
  rw [Array.getElem?_setIfInBounds_ne (by omega), Array.getElem?_setIfInBounds_ne (by omega), Array.getElem?_setIfInBounds_ne (by omega)]
theorem extract_eq {cs cs' : Array Value} {a b : Nat} (hs : cs.size = cs'.size) (h : ∀ i, a ≤ i → i < b → cs[i]? = cs'[i]?) : cs.extract a b = cs'.extract a b := by
  apply Array.ext_getElem?
  intro i
  simp only [Array.getElem?_extract, hs]
  split
  · exact h _ (by omega) (by omega)
  · rfl
/-- an account's cells, its code and places laid anew -/
theorem acc_new {W : World} {cs cs6 : Array Value} {d : AccD} {c s : Value} (hone : cs.all (·.oneCell') = true) (hs : cs.size = 27) (ha : d.addr.length = 20) (had : cs.extract 0 20 = bytesV d.addr) (h20 : cs[20]? = some (.int .u64 d.nonce)) (hn : d.nonce < 2 ^ 64)
    (hba : cs.extract 21 25 = wcells d.bal) (hbl : d.bal < 2 ^ 256) (hst : ∀ i (h : i < d.store.length), (d.store[i]).1 < 2 ^ 256 ∧ (d.store[i]).2 < 2 ^ 256) (hs6 : cs6.size = 27) (hlo : ∀ i, i < 25 → cs6[i]? = cs[i]?) (h25 : cs6[25]? = some c) (h26 : cs6[26]? = some s)
    (hc : W.ownsRow 0 5 1 c (cutA d).code.length (Lib.byteCells (cutA d).code)) (hsl : W.ownsRow 0 77 8 s (cutA d).store.length (slotsV (cutA d).store)) : AccO W cs6 (cutA d) := by
  refine ⟨?_, hs6, ha, ?_, (hlo 20 (by omega)).trans h20, hn, ?_, hbl, ⟨c, h25, hc⟩, ⟨s, h26, hsl⟩, ?_⟩
  · rw [Array.all_eq_true]
    intro i hi
    have hg : cs6[i]? = some cs6[i] := Array.getElem?_eq_getElem hi
    by_cases h1 : i < 25
    · rw [hlo i h1] at hg
      obtain ⟨hi', e⟩ := Array.getElem?_eq_some_iff.1 hg
      have := Array.all_eq_true.1 hone i hi'
      rw [e] at this; exact this
    · by_cases h2 : i = 25
      · subst h2; rw [h25] at hg; rw [← Option.some.inj hg]; exact ownsRow_one hc
      · have h3 : i = 26 := by omega
        subst h3; rw [h26] at hg; rw [← Option.some.inj hg]; exact ownsRow_one hsl
  · exact (extract_eq (by omega) fun i _ h => hlo i (by omega)).trans had
  · exact (extract_eq (by omega) fun i _ h => hlo i (by omega)).trans hba
  · intro x hx
    have hx' : x ∈ d.store := List.mem_of_mem_take hx
    obtain ⟨i, hi, rfl⟩ := List.getElem_of_mem hx'
    exact hst i hi
/-- one account more -/
theorem accs_step {w7 w8 : World} {ds : List AccD} {k : Nat} {xs ys : List Value} {v : Value} {B : Nat} (h7 : ∀ j (h : j < ds.length), j < k → AccO w7 ((xs.drop (j * 27)).take 27).toArray (cutA ds[j])) (ho : w7.ownsRow B 46 27 v k xs) (hg : w7.grownBy w8 v.ownBlock)
    (hk : k < ds.length) (hnew : AccO w7 ys.toArray (cutA ds[k])) : ∀ j (h : j < ds.length), j < k + 1 → AccO w8 (((xs ++ ys).drop (j * 27)).take 27).toArray (cutA ds[j]) := by
  intro j h hj
  by_cases hjk : j < k
  · rw [row_keep ho.1 hjk]
    exact (h7 j h hjk).grown ho hg
  · obtain rfl : j = k := by omega
    rw [row_last ho.1 (by simpa using hnew.2.1)]
    exact hnew.grown ho hg
/-- accounts just made -/
def AccsO (w : World) (v : Value) (ds : List AccD) : Prop := ∃ xs, w.ownsRow 0 46 27 v ds.length xs ∧ ∀ j (h : j < ds.length), AccO w ((xs.drop (j * 27)).take 27).toArray ds[j]
theorem AccsO.rd {w : World} {v : Value} {ds : List AccD} (h : AccsO w v ds) : RdS w.heap.size w 27 (AccC w.heap.size w) v ds := by
  obtain ⟨xs, h1, h2⟩ := h
  exact RdS_own h1 (by omega) fun i hi => (h2 i hi).c
theorem AccsO.set {w : World} {v : Value} {ds : List AccD} (h : AccsO w v ds) {b i : Nat} {cs' : Array Value} (hb : Blk w b cs' 29) (x : Value) : AccsO (w.setCell ⟨b, i, none⟩ x) v ds := by
  obtain ⟨xs, h1, h2⟩ := h
  exact ⟨xs, ownsRow_set h1 hb (by decide) x, fun j hj => (h2 j hj).set hb (by decide) (by decide) x⟩
theorem AccsO.low {w w' : World} {v : Value} {ds : List AccD} (h : AccsO w v ds) (hb : Below w.heap.size w w') : AccsO w' v ds := by
  obtain ⟨xs, h1, h2⟩ := h
  exact ⟨xs, ownsRow_low h1 hb, fun j hj => (h2 j hj).low hb⟩
theorem AccsO.slice {w : World} {v : Value} {ds : List AccD} (h : AccsO w v ds) : ∃ a n c, v = .slice a n c := by
  obtain ⟨xs, h1, -⟩ := h
  exact ownsRow_slice3 h1
end Go.Proofs.YtlcokkiohilmlaaGreatDoor
