import Derived.Test.YtlcokkiohilmlaaGreatDoorTw
import Derived.OpenShut
import Derived.Deep.Slices
/- How an argument that reads as data lies in memory: leaves, arrays of bytes, words, slices of rows; with a bound on what it holds. -/
namespace Go.Proofs.YtlcokkiohilmlaaGreatDoor
open Go.RowKit

/-- a measure of data -/
structure Bulk {H : Type} (c : Nat) (bk : DataW H → Nat) (bka : List (DataW H) → Nat) : Prop where
  one : ∀ d, c ≤ bk d
  nil : bka [] = 0
  cons : ∀ d r, bka (d :: r) = bk d + bka r
  slice : ∀ e s, bka e + c ≤ bk (.slice e s)
  agg : ∀ p, bka p + c ≤ bk (.agg p)
theorem Bulk.sum {H : Type} {c : Nat} {bk : DataW H → Nat} {bka : List (DataW H) → Nat} (hB : Bulk c bk bka) {α : Type} (D : α → DataW H) (f : α → Nat) : ∀ l : List α, (∀ i ∈ l, f i ≤ bk (D i)) → (l.map f).sum ≤ bka (l.map D)
  | [], _ => by simp
  | i :: l, h => by
    simp only [List.map_cons, List.sum_cons, hB.cons]
    have := hB.sum D f l (fun j hj => h j (List.mem_cons_of_mem _ hj))
    have := h i (List.mem_cons_self)
    omega

/-- as 'RdS', the room told -/
def RdW {α : Type} (B : Nat) (w : World) (size : Nat) (P : Array Value → α → Prop) (v : Value) (ds : List α) : Prop :=
  ∃ a cap, v = .slice a ds.length cap ∧ ds.length ≤ cap ∧ ∀ i (h : i < ds.length), ∃ b off cs, a = some ⟨b, off, none⟩ ∧ b < B ∧ w.rangeAt b (off + i * size) cs.toList ∧ cs.size = size ∧ P cs ds[i]
theorem RdW.s {α : Type} {B : Nat} {w : World} {size : Nat} {P : Array Value → α → Prop} {v : Value} {ds : List α} (h : RdW B w size P v ds) : RdS B w size P v ds := by
  obtain ⟨a, cap, hv, -, hc⟩ := h
  exact ⟨a, cap, hv, hc⟩

theorem all_split {cs : List Value} {f : Value → Bool} (a n : Nat) (h1 : ((cs.drop a).take n).all f = true) (h2 : (cs.drop (a + n)).all f = true) : (cs.drop a).all f = true := by
  rw [← List.take_append_drop n (cs.drop a), List.all_append, h1, List.drop_drop, h2]; rfl
theorem all_end {cs : List Value} {f : Value → Bool} {n : Nat} (h : cs.length = n) : (cs.drop n).all f = true := by
  rw [List.drop_of_length_le (by omega)]; rfl
theorem exists_map {α β : Type} (f : α → β) : ∀ cs : List β, (∀ c ∈ cs, ∃ a, c = f a) → ∃ l : List α, cs = l.map f
  | [], _ => ⟨[], rfl⟩
  | c :: cs, h => by
    obtain ⟨a, rfl⟩ := h c (List.mem_cons_self)
    obtain ⟨l, rfl⟩ := exists_map f cs (fun x hx => h x (List.mem_cons_of_mem _ hx))
    exact ⟨a :: l, rfl⟩
theorem extract_drop (cs : List Value) (a n : Nat) : cs.toArray.extract a (a + n) = ((cs.drop a).take n).toArray := by
  apply Array.ext'
  simp
theorem get_drop {cs : List Value} {a : Nat} {x : Value} (h : (cs.drop a).take 1 = [x]) : cs.toArray[a]? = some x := by
  rw [List.getElem?_toArray]
  exact Go.WideShapes.cell_of_cut h
theorem bytes_all (l : List UInt8) : (Lib.byteCells l).all (·.oneCell') = true := by simp [Lib.byteCells, Value.oneCell']

section
variable {H : Type} {enc : TypeId × Value → H} {P : Program} {w : World} {spare : Nat → Bool} {held : Bool} {fuel : Nat} {t e : TypeId} {cs : List Value} {x : DataW H × List MemPlace}

theorem op_u64 (ht : P.underlying t = some (.int .u64)) (h : DataW.trod enc P w 0 spare held fuel t cs = some x) : ∃ n : Nat, cs = [.int .u64 n] ∧ n < 2 ^ 64 := by
  obtain ⟨n, rfl, -, hw⟩ := DataW.trod_int ht h
  have := bounds_u64 hw
  exact ⟨n.toNat, by rw [Int.toNat_of_nonneg this.1], by omega⟩
theorem op_i64 (ht : P.underlying t = some (.int .i64)) (h : DataW.trod enc P w 0 spare held fuel t cs = some x) : ∃ n : Int, cs = [.int .i64 n] := by
  obtain ⟨n, rfl, -, hw⟩ := DataW.trod_int ht h
  exact ⟨n, rfl⟩
theorem op_u8 (ht : P.underlying t = some (.int .u8)) (h : DataW.trod enc P w 0 spare held fuel t cs = some x) : ∃ b : UInt8, cs = [.int .u8 b.toNat] := by
  obtain ⟨n, rfl, -, hw⟩ := DataW.trod_int ht h
  have := bounds_u8 hw
  refine ⟨UInt8.ofNat n.toNat, ?_⟩
  rw [UInt8.toNat_ofNat']
  congr 2
  omega
theorem op_bytes {n : Nat} (ht : P.underlying t = some (.array n e)) (he : P.underlying e = some (.int .u8)) (hc : P.cellsOf e = 1) (hn : P.cellsOf t = n) (h : DataW.trod enc P w 0 spare held fuel t cs = some x) :
    ∃ l : List UInt8, l.length = n ∧ cs = Lib.byteCells l := by
  obtain ⟨xs, m, -, -, hl, hx, hi⟩ := DataW.trod_array ht h
  obtain ⟨l, hl'⟩ := exists_map (fun b : UInt8 => Value.int .u8 b.toNat) cs (fun c hc' => by
    obtain ⟨i, hi', rfl⟩ := List.getElem_of_mem hc'
    have h1 := hi i (by omega)
    rw [List.getElem?_eq_getElem (by omega), hc, Nat.mul_one] at h1
    obtain ⟨b, hb⟩ := op_u8 he h1
    refine ⟨b, ?_⟩
    have := Go.WideShapes.cell_of_cut hb
    rw [List.getElem?_eq_getElem hi'] at this
    exact Option.some.inj this)
  refine ⟨l, ?_, ?_⟩
  · have := congrArg List.length hl'
    rw [List.length_map] at this
    omega
  · rw [hl']; simp [Lib.byteCells]
theorem limbs_of {a b c d : Nat} (ha : a < 2 ^ 64) (hb : b < 2 ^ 64) (hc : c < 2 ^ 64) (hd : d < 2 ^ 64) :
    ∃ m, m < 2 ^ 256 ∧ limb m 0 = a ∧ limb m 1 = b ∧ limb m 2 = c ∧ limb m 3 = d := by
  refine ⟨a + 2 ^ 64 * (b + 2 ^ 64 * (c + 2 ^ 64 * d)), ?_, ?_, ?_, ?_, ?_⟩
  · omega
  · show (a + 2 ^ 64 * (b + 2 ^ 64 * (c + 2 ^ 64 * d))) / 2 ^ (64 * 0) % 2 ^ 64 = a
    omega
  · show (a + 2 ^ 64 * (b + 2 ^ 64 * (c + 2 ^ 64 * d))) / 2 ^ (64 * 1) % 2 ^ 64 = b
    omega
  · show (a + 2 ^ 64 * (b + 2 ^ 64 * (c + 2 ^ 64 * d))) / 2 ^ (64 * 2) % 2 ^ 64 = c
    omega
  · show (a + 2 ^ 64 * (b + 2 ^ 64 * (c + 2 ^ 64 * d))) / 2 ^ (64 * 3) % 2 ^ 64 = d
    omega
theorem op_word (ht : P.underlying t = some (.array 4 e)) (he : P.underlying e = some (.int .u64)) (hc : P.cellsOf e = 1) (hn : P.cellsOf t = 4) (h : DataW.trod enc P w 0 spare held fuel t cs = some x) :
    ∃ m, m < 2 ^ 256 ∧ cs = (wcells m).toList := by
  obtain ⟨xs, m, -, -, hl, hx, hi⟩ := DataW.trod_array ht h
  rw [hn] at hl
  match cs, hl with
  | [c0, c1, c2, c3], _ =>
    have g : ∀ i, i < 4 → ∃ k : Nat, (([c0, c1, c2, c3] : List Value).drop i).take 1 = [.int .u64 k] ∧ k < 2 ^ 64 := fun i hi' => by
      have h1 := hi i hi'
      rw [List.getElem?_eq_getElem (by omega), hc, Nat.mul_one] at h1
      exact op_u64 he h1
    obtain ⟨a, ha, ha'⟩ := g 0 (by omega)
    obtain ⟨b, hb, hb'⟩ := g 1 (by omega)
    obtain ⟨c, hcc, hc'⟩ := g 2 (by omega)
    obtain ⟨d, hd, hd'⟩ := g 3 (by omega)
    simp at ha hb hcc hd
    subst ha; subst hb; subst hcc; subst hd
    obtain ⟨m, hm, h0, h1, h2, h3⟩ := limbs_of ha' hb' hc' hd'
    exact ⟨m, hm, by simp [wcells, h0, h1, h2, h3]⟩
variable {c : Nat} {bk : DataW H → Nat} {bka : List (DataW H) → Nat}
/-- a slice of rows -/
theorem op_rows (hB : Bulk c bk bka) {α : Type} [Inhabited α] {sz : Nat} (ht : P.underlying t = some (.slice e)) (hsz : P.cellsOf e = sz) (hpos : 0 < sz) (Q : Array Value → α → Prop) (f : α → Nat)
    (hel : ∀ fuel cs x, DataW.trod enc P w 0 spare held fuel e cs = some x → ∃ a, Q cs.toArray a ∧ f a ≤ bk x.1)
    (h : DataW.trod enc P w 0 spare held fuel t cs = some x) : ∃ v ds, cs = [v] ∧ v.oneCell' = true ∧ RdW w.heap.size w sz Q v ds ∧ (ds.map f).sum + c ≤ bk x.1 := by
  rcases Deep.open_slice ht h with ⟨rfl, rfl⟩ | ⟨a, len, cap, m, n, D, Pl, rfl, -, hlen, -, hm, rfl, hx⟩
  · exact ⟨_, [], rfl, rfl, ⟨none, 0, rfl, Nat.le_refl _, fun i hi => absurd hi (by simp)⟩, by simpa using hB.one _⟩
  have hlm : len ≤ m := by rw [hm]; split <;> omega
  have hspot : 0 < len → a.spot = none := fun hp => by
    obtain ⟨cs', h1, -⟩ := hx 0 (by omega)
    rw [hsz] at h1
    obtain ⟨-, h5, h6⟩ := World.cells?_some h1
    have h7 := h6 0 hpos
    rw [List.getElem?_eq_getElem (by omega)] at h7
    simpa [Addr.add] using World.cell?_spot h7
  obtain ⟨V, hV⟩ := Deep.choose_lt (α := α) (n := len) (p := fun i d => (∃ b off cs, a = ⟨b, off, none⟩ ∧ b < w.heap.size ∧ w.rangeAt b (off + i * sz) (cs : Array Value).toList ∧ cs.size = sz ∧ Q cs d) ∧ f d ≤ bk (D i)) (fun i hi => by
    obtain ⟨cs', h1, h2⟩ := hx i (by omega)
    obtain ⟨d, h3, h4⟩ := hel _ _ _ h2
    rw [hsz] at h1
    obtain ⟨-, h5, h6⟩ := World.cells?_some h1
    refine ⟨d, ?_, h4⟩
    have h7 := h6 0 hpos
    rw [List.getElem?_eq_getElem (by omega)] at h7
    obtain ⟨b, off, spot⟩ := a
    have hs : spot = none := hspot (by omega)
    subst hs
    rw [Go.WideShapes.add_plain, Go.WideShapes.add_plain] at h7
    refine ⟨b, off, cs'.toArray, rfl, cell_lt h7, ?_, by simpa using h5, h3⟩
    intro j v hj
    have hj' : j < sz := by
      have := (List.getElem?_eq_some_iff.1 hj).1
      simp at this; omega
    have h8 := h6 j hj'
    rw [Go.WideShapes.add_plain, Go.WideShapes.add_plain] at h8
    rw [h8]; simpa using hj)
  refine ⟨_, (List.range len).map V, rfl, rfl, ⟨some a, cap, by simp, by simpa using hlen, fun i hi => ?_⟩, ?_⟩
  · simp only [List.length_map, List.length_range] at hi
    obtain ⟨⟨b, off, cs', ha, h1, h2, h3, h4⟩, -⟩ := hV i hi
    exact ⟨b, off, cs', by rw [ha], h1, h2, h3, by simpa using h4⟩
  · have h1 := hB.slice ((List.range len).map D) ((List.range (m - len)).map fun j => D (len + j))
    have h2 := hB.sum D (fun i => f (V i)) (List.range len) (fun i hi => (hV i (List.mem_range.1 hi)).2)
    rw [List.map_map]
    exact Nat.le_trans (Nat.add_le_add_right h2 c) h1
/-- a slice of bytes -/
theorem op_raw (hB : Bulk c bk bka) (ht : P.underlying t = some (.slice e)) (he : P.underlying e = some (.int .u8)) (hc : P.cellsOf e = 1)
    (h : DataW.trod enc P w 0 spare held fuel t cs = some x) : ∃ v l, cs = [v] ∧ v.oneCell' = true ∧ RdV w.heap.size w v l ∧ l.length * c + c ≤ bk x.1 := by
  obtain ⟨v, l, h1, h2, ⟨a, cap, hv, hcap, hi⟩, h4⟩ := op_rows hB (α := UInt8) ht hc (by omega) (fun cs b => cs = #[.int .u8 b.toNat]) (fun _ => c) (fun _ _ y hy => by
    obtain ⟨b, hb⟩ := op_u8 he hy
    exact ⟨b, by rw [hb], hB.one _⟩) h
  refine ⟨v, l, h1, h2, ⟨a, cap, hv, hcap, fun i hi' => ?_⟩, by rw [List.map_const', List.sum_replicate_nat] at h4; simpa using h4⟩
  obtain ⟨b, off, cs', ha, hb, hr, -, rfl⟩ := hi i hi'
  refine ⟨b, off, ha, hb, ?_⟩
  have := hr 0 _ rfl
  simpa using this
end
end Go.Proofs.YtlcokkiohilmlaaGreatDoor
