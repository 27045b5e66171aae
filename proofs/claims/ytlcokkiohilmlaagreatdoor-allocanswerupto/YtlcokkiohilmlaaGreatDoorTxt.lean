namespace Go.Proofs.YtlcokkiohilmlaaGreatDoor
/-- a hex digit -/
def hexd (n : Nat) : UInt8 := if n < 10 then (48 + n).toUInt8 else (87 + n).toUInt8
def hexes : List UInt8 → List UInt8
  | [] => []
  | b :: l => hexd (b.toNat / 16) :: hexd (b.toNat % 16) :: hexes l
def text (l : List UInt8) : List UInt8 := 48 :: 120 :: hexes l
theorem hexes_append (l r : List UInt8) : hexes (l ++ r) = hexes l ++ hexes r := by
  induction l with
  | nil => rfl
  | cons x l ih => simp [hexes, ih]
theorem hexes_length (l : List UInt8) : (hexes l).length = 2 * l.length := by
  induction l with
  | nil => rfl
  | cons x l ih => simp [hexes, ih]; omega
end Go.Proofs.YtlcokkiohilmlaaGreatDoor
