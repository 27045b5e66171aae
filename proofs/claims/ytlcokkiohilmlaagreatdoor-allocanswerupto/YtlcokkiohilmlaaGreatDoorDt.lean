import Derived.Test.YtlcokkiohilmlaaGreatDoorLn
/- What accounts, logs and receipts are, and how they lie in memory. -/
namespace Go.Proofs.YtlcokkiohilmlaaGreatDoor
open Go.RowKit

/-- a slice of elements of so many cells each, in blocks below B -/
def RdS {α : Type} (B : Nat) (w : World) (size : Nat) (P : Array Value → α → Prop) (v : Value) (ds : List α) : Prop :=
  ∃ a cap, v = .slice a ds.length cap ∧ ∀ i (h : i < ds.length), ∃ b off cs, a = some ⟨b, off, none⟩ ∧ b < B ∧ w.rangeAt b (off + i * size) cs.toList ∧ cs.size = size ∧ P cs ds[i]
theorem rangeAt_below {B : Nat} {w w' : World} (hb : Below B w w') {b o : Nat} {cs : List Value} (hlt : b < B) (h : w.rangeAt b o cs) : w'.rangeAt b o cs :=
  fun j v hj => (hb.cell (p := ⟨b, o + j, none⟩) hlt).trans (h j v hj)
theorem RdS.below {α : Type} {B : Nat} {w w' : World} {size : Nat} {P Q : Array Value → α → Prop} {v : Value} {ds : List α} (h : RdS B w size P v ds) (hb : Below B w w') (hPQ : ∀ cs d, P cs d → Q cs d) : RdS B w' size Q v ds := by
  obtain ⟨a, cap, hv, hc⟩ := h
  refine ⟨a, cap, hv, fun i hi => ?_⟩
  obtain ⟨b, off, cs, ha, hlt, hr, hs, hp⟩ := hc i hi
  exact ⟨b, off, cs, ha, hlt, rangeAt_below hb hlt hr, hs, hPQ _ _ hp⟩

/-- a hash as cells -/
def HashC (cs : Array Value) (l : List UInt8) : Prop := l.length = 32 ∧ cs = bytesV l
structure LogD where
  addr : List UInt8
  topics : List (List UInt8)
  data : List UInt8
def LogC (B : Nat) (w : World) (cs : Array Value) (d : LogD) : Prop :=
  cs.all (·.oneCell') = true ∧ d.addr.length = 20 ∧ cs.extract 0 20 = bytesV d.addr ∧ (∃ tv, cs[20]? = some tv ∧ RdS B w 32 HashC tv d.topics) ∧ ∃ dv, cs[21]? = some dv ∧ RdU B w dv d.data
theorem LogC.below {B : Nat} {w w' : World} {cs : Array Value} {d : LogD} (h : LogC B w cs d) (hb : Below B w w') : LogC B w' cs d := by
  obtain ⟨h0, h1, h2, ⟨tv, h3, h4⟩, dv, h5, h6⟩ := h
  exact ⟨h0, h1, h2, ⟨tv, h3, h4.below hb (fun _ _ h => h)⟩, dv, h5, h6.below hb⟩

/-- the pieces of a log's line -/
def logP (d : LogD) : List (List UInt8) := [108, 111, 103] :: text d.addr :: text d.data :: d.topics.map text
def logsS (ds : List LogD) : List UInt8 := ds.flatMap fun d => lineS (logP d)
structure RecD where
  root : List UInt8
  ok : Bool
  gas : Nat
  logs : List LogD
def RecC (B : Nat) (w : World) (cs : Array Value) (d : RecD) : Prop :=
  cs.all (·.oneCell') = true ∧ (∃ rv, cs[1]? = some rv ∧ RdU B w rv d.root) ∧ cs[2]? = some (.bool d.ok) ∧ cs[3]? = some (.int .u64 d.gas) ∧ d.gas < 2 ^ 64 ∧ ∃ lv, cs[260]? = some lv ∧ RdS B w 22 (LogC B w) lv d.logs
theorem RecC.below {B : Nat} {w w' : World} {cs : Array Value} {d : RecD} (h : RecC B w cs d) (hb : Below B w w') : RecC B w' cs d := by
  obtain ⟨h0, ⟨rv, h1, h2⟩, h3, h4, h5, lv, h6, h7⟩ := h
  exact ⟨h0, ⟨rv, h1, h2.below hb⟩, h3, h4, h5, lv, h6, h7.below hb (fun _ _ h => h.below hb)⟩
def recP (d : RecD) : List (List UInt8) :=
  [[114, 101, 99, 101, 105, 112, 116], quant d.gas, if d.root = [] then (if d.ok then [111, 107] else [102, 97, 105, 108, 101, 100]) else text d.root]
def recS (d : RecD) : List UInt8 := lineS (recP d) ++ logsS d.logs
def recsS (ds : List RecD) : List UInt8 := ds.flatMap recS
structure AccD where
  addr : List UInt8
  nonce : Nat
  bal : Nat
  code : List UInt8
  store : List (Nat × Nat)
def SlotC (cs : Array Value) (d : Nat × Nat) : Prop := cs = wcells d.1 ++ wcells d.2 ∧ d.1 < 2 ^ 256 ∧ d.2 < 2 ^ 256
def AccC (B : Nat) (w : World) (cs : Array Value) (d : AccD) : Prop :=
  cs.all (·.oneCell') = true ∧ d.addr.length = 20 ∧ cs.extract 0 20 = bytesV d.addr ∧ cs[20]? = some (.int .u64 d.nonce) ∧ d.nonce < 2 ^ 64 ∧ cs.extract 21 25 = wcells d.bal ∧ d.bal < 2 ^ 256 ∧
    (∃ cv, cs[25]? = some cv ∧ RdU B w cv d.code) ∧ ∃ sv, cs[26]? = some sv ∧ RdS B w 8 SlotC sv d.store
theorem AccC.below {B : Nat} {w w' : World} {cs : Array Value} {d : AccD} (h : AccC B w cs d) (hb : Below B w w') : AccC B w' cs d := by
  obtain ⟨h0, h1, h2, h3, h4, h5, h6, ⟨cv, h7, h8⟩, sv, h9, h10⟩ := h
  exact ⟨h0, h1, h2, h3, h4, h5, h6, ⟨cv, h7, h8.below hb⟩, sv, h9, h10.below hb (fun _ _ h => h)⟩
def slotP (d : Nat × Nat) : List (List UInt8) := [[115, 108, 111, 116], quant d.1, quant d.2]
def accP (d : AccD) : List (List UInt8) := [[97, 99, 99, 111, 117, 110, 116], text d.addr, quant d.nonce, quant d.bal, text d.code]
def accS (d : AccD) : List UInt8 := lineS (accP d) ++ d.store.flatMap fun s => lineS (slotP s)
def accsS (ds : List AccD) : List UInt8 := ds.flatMap accS
/-- a row of pieces just made -/
theorem Pcs_new {w : World} {B b g : Nat} (cs : Array Value) (xs : List Value) (ps : List (List UInt8)) (hcs : cs.toList = xs) (hg : g = w.heap.size) (hb : b < w.heap.size) (hB : B ≤ w.heap.size)
    (h : xs.length = ps.length ∧ ∀ i (h1 : i < xs.length) (h2 : i < ps.length), Pc B w xs[i] ps[i]) : Pcs B b (w.alloc (.cells cs 20)) (.slice (some ⟨g, 0, none⟩) xs.length xs.length) ps := by
  subst hg
  obtain ⟨hl, h⟩ := h
  refine ⟨some ⟨w.heap.size, 0, none⟩, xs.length, by rw [hl], fun i hi => ⟨w.heap.size, 0, xs[i]'(by omega), rfl, ?_, (h i (by omega) hi).below ((Below.refl _ _).alloc hB _), .inr ⟨by omega, cs, _, heap_alloc_new w _⟩⟩⟩
  rw [Nat.zero_add, (Blk.new w cs 20).cell, ← Array.getElem?_toList]
  simp only [hcs]
  exact List.getElem?_eq_getElem _
theorem flatMap_take_succ {α : Type} (f : α → List UInt8) (ds : List α) (k : Nat) (h : k < ds.length) : (ds.take (k + 1)).flatMap f = (ds.take k).flatMap f ++ f ds[k] := by
  rw [List.take_succ_eq_append_getElem h, List.flatMap_append]; simp
theorem flatMap_take_le {α : Type} (f : α → List UInt8) (ds : List α) (k : Nat) : ((ds.take k).flatMap f).length ≤ (ds.flatMap f).length := by
  conv => rhs; rw [← List.take_append_drop k ds, List.flatMap_append, List.length_append]
  omega
theorem flatMap_ge {α : Type} (f : α → List UInt8) (h : ∀ d, 1 ≤ (f d).length) (ds : List α) : ds.length ≤ (ds.flatMap f).length := by
  induction ds with
  | nil => simp
  | cons d r ih => have := h d; simp only [List.flatMap_cons, List.length_append, List.length_cons]; omega
theorem lineS_pos (ps : List (List UInt8)) : 1 ≤ (lineS ps).length := by simp [lineS]
end Go.Proofs.YtlcokkiohilmlaaGreatDoor
