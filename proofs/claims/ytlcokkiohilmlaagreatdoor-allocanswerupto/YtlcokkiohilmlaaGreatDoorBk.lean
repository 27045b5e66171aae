import Derived.Test.YtlcokkiohilmlaaGreatDoorCards
import Derived.ProofKit
import Derived.JoinedCond
import Derived.ChangeBook
/- The types that one leads to, by few steps: what a great table of types asks the kernel in another form. -/
namespace Go.Proofs.YtlcokkiohilmlaaGreatDoor
section
variable {P : Program}
theorem grown_fix {s : List TypeId} (h : P.grow s = s) : ∀ n, P.grown n s = s
  | 0 => rfl
  | n + 1 => by
    show P.grown n (P.grow s) = s
    rw [h]; exact grown_fix h n
theorem grown_add (b : Nat) : ∀ (a : Nat) (s : List TypeId), P.grown (a + b) s = P.grown b (P.grown a s)
  | 0, s => by rw [Nat.zero_add]; rfl
  | a + 1, s => by
    rw [Nat.add_right_comm]
    exact grown_add b a (P.grow s)
def fixed (P : Program) (t : TypeId) : Bool := P.grow (P.grown 8 [t]) == P.grown 8 [t]
theorem book_of (hs : 8 ≤ P.types.size) {t : TypeId} (h : fixed P t = true) : P.book t = P.grown 8 [t] := by
  have h' : P.grow (P.grown 8 [t]) = P.grown 8 [t] := by simpa [fixed] using h
  unfold Program.book
  obtain ⟨n, hn⟩ : ∃ n, P.types.size = 8 + n := ⟨P.types.size - 8, by omega⟩
  rw [hn, grown_add, grown_fix h']
def rdB (P : Program) (t : TypeId) : Bool := (P.grown 8 [t]).all fun u => P.fineRow u && (P.partsOf u).all ((P.grown 8 [t]).contains ·)
theorem readable_of (hs : 8 ≤ P.types.size) {t : TypeId} (h : fixed P t = true) (h' : rdB P t = true) : P.readableRec t = true := by
  unfold Program.readableRec
  rw [book_of hs h]
  exact h'
def mpB (P : Program) (t : TypeId) : Bool := (P.grown 8 [t]).any fun u => match P.underlying u with | some (.map _ _) => true | _ => false
theorem maps_of (hs : 8 ≤ P.types.size) {t : TypeId} (h : fixed P t = true) (h' : mpB P t = false) : P.mapsRec t = false := by
  unfold Program.mapsRec
  rw [book_of hs h]
  exact h'
def ifB (P : Program) (t : TypeId) : Bool := (P.grown 8 [t]).any fun u => match P.underlying u with | some (.interface _) => true | _ => false
theorem ifaces_of (hs : 8 ≤ P.types.size) {t : TypeId} (h : fixed P t = true) (h' : ifB P t = false) : P.ifacesRec t = false := by
  unfold Program.ifacesRec
  rw [book_of hs h]
  exact h'
def vlB (P : Program) (t : TypeId) : Bool := (P.grown 8 [t]).any fun u => match P.underlying u with | some (.func ..) | some (.chan ..) | some .unsafePointer => true | _ => false
theorem veiled_of (hs : 8 ≤ P.types.size) {t : TypeId} (h : fixed P t = true) (h' : vlB P t = false) : P.veiledRec t = false := by
  unfold Program.veiledRec
  rw [book_of hs h]
  exact h'
def wkB (P : Program) (t : TypeId) : Bool := (P.grown 8 [t]).any fun u => match P.underlying u with
    | some (.map k _) => (match P.underlying k with | some (.array _ _) | some (.struct _) => true | _ => false)
    | _ => false
theorem wide_of (hs : 8 ≤ P.types.size) {t : TypeId} (h : fixed P t = true) (h' : wkB P t = false) : P.wideKeysFrom t = false := by
  unfold Program.wideKeysFrom
  rw [book_of hs h]
  exact h'
def lpB (P : Program) (t : TypeId) : Bool := (P.grown 8 [t]).all fun u => (P.partsOf u).all fun v => fixed P v && !(P.grown 8 [v]).contains u
theorem loops_of (hs : 8 ≤ P.types.size) {t : TypeId} (h : fixed P t = true) (h' : lpB P t = true) : P.loopsFrom t = false := by
  unfold Program.loopsFrom
  rw [book_of hs h, List.any_eq_false]
  intro u hu
  rw [Bool.not_eq_true, List.any_eq_false]
  intro v hv
  have := List.all_eq_true.1 (List.all_eq_true.1 h' u hu) v hv
  rw [Bool.and_eq_true] at this
  rw [book_of hs this.1]
  simpa using this.2
/-- all that is asked of a plain type -/
def plainB (P : Program) (t : TypeId) : Bool := fixed P t && rdB P t && !mpB P t && !ifB P t && !vlB P t && !wkB P t && lpB P t
structure PlainT (P : Program) (t : TypeId) : Prop where
  rd : P.readableRec t = true
  mp : P.mapsRec t = false
  ifc : P.ifacesRec t = false
  vl : P.veiledRec t = false
  wk : P.wideKeysFrom t = false
  lp : P.loopsFrom t = false
theorem plain_of (hs : 8 ≤ P.types.size) {t : TypeId} (h : plainB P t = true) : PlainT P t := by
  simp only [plainB, Bool.and_eq_true, Bool.not_eq_true'] at h
  obtain ⟨⟨⟨⟨⟨⟨h1, h2⟩, h3⟩, h4⟩, h5⟩, h6⟩, h7⟩ := h
  exact ⟨readable_of hs h1 h2, maps_of hs h1 h3, ifaces_of hs h1 h4, veiled_of hs h1 h5, wide_of hs h1 h6, loops_of hs h1 h7⟩
theorem own_of {t : TypeId} (h : P.veiledRec t = false) : P.veiledOwn t = true := by
  unfold Program.veiledOwn
  rw [h]; rfl
theorem chunk {f : Nat → Bool} {a n : Nat} (h : (List.range' a n).all f = true) {i : Nat} (h1 : a ≤ i) (h2 : i < a + n) : f i = true :=
  List.all_eq_true.1 h i (List.mem_range'_1.2 ⟨h1, h2⟩)
end
theorem types8 : 8 ≤ Tryz.prog.types.size := of_decide_eq_true (by kernel_rfl)
theorem pl_res : PlainT Tryz.prog 29 := plain_of types8 (by kernel_rfl)
theorem pl_int : PlainT Tryz.prog 3 := plain_of types8 (by kernel_rfl)
theorem pl_bool : PlainT Tryz.prog 4 := plain_of types8 (by kernel_rfl)
end Go.Proofs.YtlcokkiohilmlaaGreatDoor
