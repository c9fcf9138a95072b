/- Contract of the document's parts of a float. -/
import Derived.Test.YtljcncfipocnpaaWide
import Derived.Test.YtljcncfipocnpaaFloat4
import Derived.Laws.StructEq
namespace Go.Proofs.Ytljcncfipocnpaa
open Go.RowKit Fl

/-! ### parts -/
theorem and_mask (i x : Nat) (hx : x < NB) (hi : i ≤ 64) : bits .and .u64 (x : Int) (((2 ^ i - 1 : Nat)) : Int) = ((x % 2 ^ i : Nat) : Int) := by
  have h64 : (2 : Nat) ^ i ≤ 2 ^ 64 := Nat.pow_le_pow_right (by decide) hi
  have hp := Nat.two_pow_pos i
  rw [u64_and_nat x _ hx (by have : (2 : Nat) ^ 64 = 18446744073709551616 := by decide
                             omega), Nat.and_two_pow_sub_one_eq_mod]
theorem and52 (x : Nat) (hx : x < NB) : bits .and .u64 (x : Int) 4503599627370495 = ((x % 4503599627370496 : Nat) : Int) := and_mask 52 x hx (by decide)
theorem and11 (x : Nat) (hx : x < NB) : bits .and .u64 (x : Int) 2047 = ((x % 2048 : Nat) : Int) := and_mask 11 x hx (by decide)
theorem and32 (x : Nat) (hx : x < NB) : bits .and .u64 (x : Int) 4294967295 = ((x % 4294967296 : Nat) : Int) := and_mask 32 x hx (by decide)
theorem and63 (x : Nat) (hx : x < NB) : bits .and .u64 (x : Int) 9223372036854775808 = ((x / 9223372036854775808 * 9223372036854775808 : Nat) : Int) := by
  have h : (9223372036854775808 : Int) = ((9223372036854775808 : Nat) : Int) := rfl
  rw [h, u64_and_nat x _ hx (by decide)]
  have : x &&& 9223372036854775808 = x / 9223372036854775808 * 9223372036854775808 := by
    have h2 : (9223372036854775808 : Nat) = 2 ^ 63 := by decide
    rw [h2, nat_bit 63 x, ← h2]
    unfold NB at hx; omega
  rw [this]

/-- A float's parts: its amount is pm times 2 to the pe. -/
def pE (b : Nat) : Nat := b / 4503599627370496 % 2048
def pm (b : Nat) : Nat := if pE b = 0 then b % 4503599627370496 else b % 4503599627370496 + 4503599627370496
def pe (b : Nat) : Int := if pE b = 0 then -1074 else (pE b : Int) - 1075
def pn (b : Nat) : Bool := decide (9223372036854775808 ≤ b)

set_option maxRecDepth 100000 in
set_option maxHeartbeats 400000 in
theorem ref_parts (b : Nat) (w : World) (hb : b < NB) :
    Calls Try.prog 39 #[.int .u64 b] w fun e w' => e = .returned (.tuple #[.bool (pn b), .int .u64 (pm b), .int .i64 (pe b)]) ∧ w' = w := by
  have q1 := and52 b hb
  have q2 : bits .and .u64 ((b : Int) / 4503599627370496) 2047 = ((pE b : Nat) : Int) := by
    have e : (b : Int) / 4503599627370496 = ((b / 4503599627370496 : Nat) : Int) := by omega
    rw [e, and11 _ (Nat.lt_of_le_of_lt (Nat.div_le_self _ _) hb)]; rfl
  have q3 := and63 b hb
  have hE : pE b < 2048 := Nat.mod_lt _ (by decide)
  have q4 : bits .or .u64 ((b % 4503599627370496 : Nat) : Int) 4503599627370496 = ((b % 4503599627370496 + 4503599627370496 : Nat) : Int) :=
    WN.or_join' 52 4503599627370496 _ (by decide) (by decide) (by decide) (Nat.mod_lt _ (by decide))
  have hn : (((b / 9223372036854775808 * 9223372036854775808 : Nat) : Int) != 0) = pn b := by
    unfold pn
    by_cases h : 9223372036854775808 ≤ b
    · rw [decide_eq_true h]; simp; omega
    · rw [decide_eq_false h]; simp; omega
  obtain ⟨E, hE'⟩ : ∃ E, pE b = E := ⟨_, rfl⟩
  have e1 : pm b = if E = 0 then b % 4503599627370496 else b % 4503599627370496 + 4503599627370496 := by rw [← hE']; rfl
  have e2 : pe b = if E = 0 then -1074 else (E : Int) - 1075 := by rw [← hE']; rfl
  rw [hE'] at q2 hE
  clear hE'
  generalize b % 4503599627370496 = f at *
  generalize pn b = nb at *
  generalize (b / 9223372036854775808 * 9223372036854775808 : Nat) = s at *
  obtain ⟨f', hf'⟩ : ∃ f', f + 4503599627370496 = f' := ⟨_, rfl⟩
  rw [hf'] at e1 q4
  clear hf'
  by_cases h0 : E = 0
  · rw [if_pos h0] at e1 e2
    subst h0
    rw [e1, e2]
    clear e1 e2
    go_enter Try.func39, Try.ntmps39
    go_wp2
    go_ret3
    subst hn
    exact ⟨rfl, rfl⟩
  · rw [if_neg h0] at e1 e2
    rw [e1, e2]
    have h0' : ((E : Int) == 0) = false := by simp; omega
    have h0'' : (E == 0) = false := by simp; omega
    clear e1 e2 h0
    go_enter Try.func39, Try.ntmps39
    go_wp2
    go_ret3
    subst hn
    exact ⟨rfl, rfl⟩
end Go.Proofs.Ytljcncfipocnpaa
