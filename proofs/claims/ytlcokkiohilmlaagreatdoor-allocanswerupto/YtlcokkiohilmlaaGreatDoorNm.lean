import Derived.Test.YtlcokkiohilmlaaGreatDoorWd
import Derived.Lib.BitFns
import Derived.Lib.ItoaNum
/- Plain: how many bits and bytes a number has; its bytes without zeros ahead. -/
namespace Go.Proofs.YtlcokkiohilmlaaGreatDoor

/-- n has B bits -/
def IsBits (n B : Nat) : Prop := (n = 0 ∧ B = 0) ∨ (1 ≤ B ∧ 2 ^ (B - 1) ≤ n ∧ n < 2 ^ B)
theorem IsBits.of_bitLen {x : Nat} (h : x < 2 ^ 64) (h0 : x ≠ 0) : 1 ≤ Lib.bitLen x ∧ 2 ^ (Lib.bitLen x - 1) ≤ x ∧ x < 2 ^ Lib.bitLen x := Lib.bitLenAux_bounds 64 x h h0
theorem limb_zero_above {n i : Nat} (hn : n < 2 ^ 256) (h : ∀ j, i ≤ j → j < 4 → limb n j = 0) : i ≤ 4 → n < 2 ^ (64 * i) := by
  intro hi
  have step : ∀ d, i + d ≤ 4 → n < 2 ^ (64 * (i + d)) → n < 2 ^ (64 * i) := by
    intro d
    induction d with
    | zero => intro _ h; simpa using h
    | succ d ih =>
      intro hd hlt
      apply ih (by omega)
      have hz := h (i + d) (by omega) (by omega)
      unfold limb at hz
      have e : 2 ^ (64 * (i + (d + 1))) = 2 ^ (64 * (i + d)) * 2 ^ 64 := by rw [← Nat.pow_add]; congr 1
      rw [e] at hlt
      have hq : n / 2 ^ (64 * (i + d)) < 2 ^ 64 := Nat.div_lt_of_lt_mul hlt
      rw [Nat.mod_eq_of_lt hq] at hz
      have hp : 0 < 2 ^ (64 * (i + d)) := Nat.pow_pos (by decide)
      rcases Nat.lt_or_ge n (2 ^ (64 * (i + d))) with h' | h'
      · exact h'
      · have := Nat.div_pos h' hp; omega
  have : i + (4 - i) = 4 := by omega
  exact step (4 - i) (by omega) (by rw [this]; exact hn)
theorem isBits_at {n i : Nat} (hn : n < 2 ^ (64 * (i + 1))) (h0 : limb n i ≠ 0) : IsBits n (64 * i + Lib.bitLen (limb n i)) := by
  have hp : 0 < 2 ^ (64 * i) := Nat.pow_pos (by decide)
  have hq : n / 2 ^ (64 * i) < 2 ^ 64 := Nat.div_lt_of_lt_mul (by rw [← Nat.pow_add]; exact hn)
  have hl : limb n i = n / 2 ^ (64 * i) := Nat.mod_eq_of_lt hq
  obtain ⟨h1, h2, h3⟩ := IsBits.of_bitLen (limb_lt n i) h0
  rw [hl] at h1 h2 h3 ⊢
  generalize Lib.bitLen (n / 2 ^ (64 * i)) = b at *
  refine .inr ⟨by omega, ?_, ?_⟩
  · rw [show 64 * i + b - 1 = 64 * i + (b - 1) from by omega, Nat.pow_add, Nat.mul_comm]
    exact (Nat.le_div_iff_mul_le hp).1 h2
  · rw [Nat.pow_add, Nat.mul_comm]
    exact (Nat.div_lt_iff_lt_mul hp).1 h3
theorem isBits_le {n B k : Nat} (h : IsBits n B) (hn : n < 2 ^ k) : B ≤ k := by
  rcases h with ⟨_, h⟩ | ⟨h1, h2, _⟩
  · omega
  · rcases Nat.lt_or_ge k B with h' | h'
    · have : 2 ^ k ≤ 2 ^ (B - 1) := Nat.pow_le_pow_right (by decide) (by omega)
      omega
    · exact h'

/-- the bytes of a number, without zeros ahead -/
def shortB (n : Nat) : List UInt8 := (be32 n).dropWhile (· == 0)
theorem dropWhile_eq_drop {α} (p : α → Bool) : ∀ (l : List α) (k : Nat), k ≤ l.length → (∀ i (h : i < l.length), i < k → p l[i] = true) → (∀ h : k < l.length, p l[k] = false) → l.dropWhile p = l.drop k
  | [], k, hk, _, _ => by simp at hk; subst hk; rfl
  | x :: l, 0, _, _, h => by
    have := h (by simp)
    simp at this
    simp [List.dropWhile, this]
  | x :: l, k + 1, hk, h1, h2 => by
    have hx : p x = true := h1 0 (by simp) (by omega)
    rw [List.dropWhile_cons_of_pos hx, List.drop_succ_cons]
    exact dropWhile_eq_drop p l k (by simpa using hk) (fun i h hi => by have := h1 (i + 1) (by simpa using h) (by omega); simpa using this) (fun h => by have := h2 (by simpa using h); simpa using this)
theorem byteAt_nat (n i : Nat) : (byteAt n i).toNat = n / 256 ^ (31 - i) % 256 := by simp [byteAt]
theorem shortB_drop {n B : Nat} (hn : n < 2 ^ 256) (h : IsBits n B) : shortB n = (be32 n).drop (32 - (B + 7) / 8) := by
  have hB := isBits_le h hn
  refine dropWhile_eq_drop _ _ _ (by rw [be32_len]; omega) ?_ ?_
  · intro i hi hik
    have hz : n / 256 ^ (31 - i) = 0 := by
      apply Nat.div_eq_of_lt
      rcases h with ⟨h, _⟩ | ⟨_, _, h3⟩
      · rw [h]; exact Nat.pow_pos (by decide)
      · refine Nat.lt_of_lt_of_le h3 ?_
        rw [show (256 : Nat) = 2 ^ 8 from rfl, ← Nat.pow_mul]
        exact Nat.pow_le_pow_right (by decide) (by omega)
    have : (be32 n)[i] = 0 := by
      simp only [be32, List.getElem_map, List.getElem_range]
      apply UInt8.toNat_inj.1
      rw [byteAt_nat, hz]; rfl
    simp [this]
  · intro hk
    rw [be32_len] at hk
    rcases h with ⟨_, h⟩ | ⟨h1, h2, h3⟩
    · omega
    · have hm : 1 ≤ (B + 7) / 8 := by omega
      have : (be32 n)[32 - (B + 7) / 8] ≠ 0 := by
        simp only [be32, List.getElem_map, List.getElem_range]
        intro e
        have e' := congrArg UInt8.toNat e
        rw [byteAt_nat] at e'
        generalize hM : (B + 7) / 8 = M at *
        rw [show 31 - (32 - M) = M - 1 from by omega] at e'
        have hp : 256 ^ (M - 1) = 2 ^ (8 * (M - 1)) := by rw [show (256 : Nat) = 2 ^ 8 from rfl, ← Nat.pow_mul]
        have hlo : 256 ^ (M - 1) ≤ n := by
          rw [hp]; exact Nat.le_trans (Nat.pow_le_pow_right (by decide) (by omega)) h2
        have hhi : n / 256 ^ (M - 1) < 256 := by
          apply Nat.div_lt_of_lt_mul
          rw [← Nat.pow_succ, Nat.succ_eq_add_one, show M - 1 + 1 = M from by omega, show (256 : Nat) = 2 ^ 8 from rfl, ← Nat.pow_mul]
          exact Nat.lt_of_lt_of_le h3 (Nat.pow_le_pow_right (by decide) (by omega))
        rw [Nat.mod_eq_of_lt hhi] at e'
        have := Nat.div_pos hlo (Nat.pow_pos (by decide))
        simp at e'
        omega
      exact beq_eq_false_iff_ne.2 this
end Go.Proofs.YtlcokkiohilmlaaGreatDoor
